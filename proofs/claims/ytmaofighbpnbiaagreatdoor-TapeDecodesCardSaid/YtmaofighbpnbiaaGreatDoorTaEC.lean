/- What lies below tapes (kept of earlier texts: Gen, Mem, DfTx, DfWn). -/
import Derived.Test.YtmaofighbpnbiaaGreatDoorTaEB
import Derived.StillTail
import Derived.Lib.QuietBelow
import Derived.OwnWalk
import Derived.ArgAppend
import Derived.Laws.OwnMore
import Derived.Maps.AppendAt
import Derived.Deep.DeepCutAuto
import Derived.Laws.BytesString
import Derived.Lib.BufferRead
import Derived.Deep.QuietTactic
set_option linter.unusedVariables false
set_option linter.unusedSimpArgs false
namespace Go.Proofs.YtmaofighbpnbiaaGreatDoor
section
open Go Go.Sort Go.RowKit
section
variable {P : Program} {ops : Array Oper} {md : Region.Mode} {C : World -> Prop}
def HeadQ (P : Program) (md : Region.Mode) (ops : Array Oper) (C : World -> Prop) (n : Nat) (L : Array Bool -> Act -> Prop) : Nat -> Array Bool -> Act -> Prop
 | 0, d, a => L d a
 | f + 1, d, a => Region.ready md ops d ≠ [] /\ ∀ i, i ∈ Region.ready md ops d -> i < n /\ qOp P ops C i (fun a' => HeadQ P md ops C n L f (d.setIfInBounds i true) a') a
theorem HeadQ.any {n g : Nat} {L : Array Bool -> Act -> Prop} {Q' : Exit -> Act -> World -> Prop} (tl : ∀ d a w, C w -> L d a -> wpAny P md ops Q' g d a w) (f : Nat) :
  ∀ (d : Array Bool) (a : Act) (w : World), C w -> HeadQ P md ops C n L f d a -> wpAny P md ops Q' (f + g) d a w := by
 induction f with
 | zero => intro d a w hw h; rw [Nat.zero_add]; exact tl d a w hw h
 | succ f ih =>
  intro d a w hw h
  have e : f + 1 + g = (f + g) + 1 := by omega
  rw [e]
  refine ⟨fun z => absurd z h.1, fun i hi => ?_⟩
  exact wpOp_of_qOp hw (fun a' w' hw' k => ih _ a' w' hw' k) (h.2 i hi).2
theorem HeadQ.first {n i : Nat} {oi : Oper} {v : Value} {L : Array Bool -> Act -> Prop} (hi : ops[i]? = some oi) (nosel : ∀ (j : Nat) (o : Oper) cs b, ops[j]? = some o -> o.op ≠ .select cs b)
  (sink : Region.sinkB md ops n = true) (chain : Region.chainB md ops n = true) (hn : n < ops.size) (hin : i < n) (late : ∀ d a, L d a -> ∀ j ∈ Region.ready md ops d, n <= j) (f : Nat) :
  ∀ (d : Array Bool) (a : Act), HeadInv md ops n d ->
   (∀ j oj, ops[j]? = some oj -> j ≠ i -> d.getD j true = false -> (∀ e ∈ oj.after, Region.binds md e = true -> e.on ≠ i) -> oi.apart ops oj = true) ->
   i ∈ Region.ready md ops d -> YieldsIn P ops C oi v a -> HeadQ P md ops C n L f (d.setIfInBounds i true) (a.put oi.dst v) -> HeadQ P md ops C n L (f + 1) d a := by
 induction f with
 | zero =>
  intro d a inv free hr hy H
  refine ⟨List.ne_nil_of_mem hr, fun j hj => ?_⟩
  have lt : j < n := Nat.lt_of_not_le fun h => tail_waits sink chain hn inv _ i rfl hin (mem_ready.1 hr).1 j h hj
  refine ⟨lt, ?_⟩
  rcases Nat.decEq j i with ne | e
  ·exact absurd (late _ _ H j (ready_mono hj ne)) (by omega)
  ·subst e; exact hy.qOp hi H
 | succ f ih =>
  intro d a inv free hr hy H
  refine ⟨List.ne_nil_of_mem hr, fun j hj => ?_⟩
  have lt : j < n := Nat.lt_of_not_le fun h => tail_waits sink chain hn inv _ i rfl hin (mem_ready.1 hr).1 j h hj
  refine ⟨lt, ?_⟩
  rcases Nat.decEq j i with ne | e
  ·obtain ⟨ju, oj, hoj, all⟩ := mem_ready.1 hj
   have nw : ∀ e ∈ oj.after, Region.binds md e = true -> e.on ≠ i := by
    intro e he hb q
    have := all e he hb
    rw [q, getD_both (mem_ready.1 hr).1] at this
    exact Bool.false_ne_true this
   have k := qOp_put hoj (free j oj hoj ne ju nw) (fun cs b => nosel i oi cs b hi) (fun cs b => nosel j oj cs b hoj) hy (H.2 j (ready_mono hj ne)).2
   refine qOp_mono (fun a' x => ?_) k
   refine ih (d.setIfInBounds j true) a' (inv.set hj lt) (fun m om hm mi mu mw => ?_) (ready_mono hr (Ne.symm ne)) x.1 (by rw [Array.setIfInBounds_comm _ _ ne]; exact x.2)
   refine free m om hm mi ?_ mw
   rcases Nat.decEq j m with jm | jm
   ·rw [getD_set_ne true jm] at mu; exact mu
   ·subst jm; exact ju
  ·subst e; exact hy.qOp hi H
theorem HeadQ.lex {n g : Nat} {K : Act -> Prop} (hsel : Region.noSelect ops = true) (sink : Region.sinkB md ops n = true) (chain : Region.chainB md ops n = true) (hn : n < ops.size) (l : List Oper) :
  ∀ (k : Nat) (d : Array Bool) (a : Act), (∀ j, j < l.length -> l[j]? = ops[k + j]?) -> k + l.length = n -> HeadInv md ops n d -> Region.lexHead md ops g l.length k d = true -> wpQuiet P ops C K l a ->
  HeadQ P md ops C n (fun d' a' => Region.seqB md ops g n d' = true /\ K a') l.length d a := by
 induction l with
 | nil =>
  intro k d a _ hk _ hB h
  have e : k = n := hk
  subst e
  exact ⟨hB, h⟩
 | cons o l ih =>
  intro k d a hl hk inv hB h
  have ho : ops[k]? = some o := (hl 0 (by simp)).symm
  simp only [List.length_cons, Region.lexHead, Bool.and_eq_true, List.contains_iff_mem] at hB
  simp only [List.length_cons] at hk
  have q : qOp P ops C k (wpQuiet P ops C K l) a := by unfold qOp; rw [ho]; exact h
  obtain ⟨v, hy, hK⟩ := yieldsIn_of_qOp ho q
  refine HeadQ.first ho (Region.noSelect_spec hsel) sink chain hn (by omega) (fun d' a' z => seqB_ready z.1) l.length d a inv (Region.free_spec ho hB.1.2) hB.1.1 hy ?_
  refine ih (k + 1) _ _ (fun j hj => ?_) (by omega) (inv.set hB.1.1 (by omega)) hB.2 hK
  have := hl (j + 1) (by simp; omega)
  rw [show k + 1 + j = k + (j + 1) by omega, <- this]
  rfl
theorem Xw {id : Nat} {Q : Exit -> Act -> World -> Prop} {a : Act} {w : World} {l : List Oper} (n : Nat) (hm : P.follows .mixedOrders = true) (hB : Region.lexTailB .any l.toArray n = true) (hC : C w.drew)
  (h : wpQuiet P l.toArray C (fun a' => ∀ w', C w' -> wpList P l.toArray Q (l.drop n) a' w') (l.take n) a) : (Code.region id l.toArray true).wp P Q a w := by
 simp only [Region.lexTailB, Bool.and_eq_true, decide_eq_true_eq] at hB
 obtain ⟨⟨⟨⟨hsel, hn⟩, sink⟩, chain⟩, lx⟩ := hB
 have tk : (l.take n).length = n := by rw [List.length_take]; simp at hn; omega
 have dk : (l.drop n).length = l.toArray.size - n := by simp
 have inv : HeadInv .any l.toArray n (Array.replicate l.toArray.size false) :=
  ⟨by simp, fun j oj _ z => by rw [getD_replicate_false] at z; exact absurd z (by decide), fun t _ ht => getD_in (by simpa using ht) (getD_replicate_false _ _)⟩
 refine wp_region_any hm ?_
 have H := HeadQ.lex (md := .any) (g := l.toArray.size - n) hsel sink chain hn (l.take n) 0 (Array.replicate l.toArray.size false) a (fun j hj => by
  rw [tk] at hj
  simp [hj]) (by omega) inv (by rw [tk]; exact lx) h
 have R := HeadQ.any (Q' := Q) (g := l.toArray.size - n) (fun d a' w' hw' z => by
  have := wpAny_of_seq (md := .any) (Q' := Q) (l.drop n) n d a' w' (fun j => by simp [List.getElem?_drop]) (by rw [dk]; exact z.1) (z.2 w' hw')
  rwa [dk] at this) (l.take n).length _ a w.drew hC H
 rw [tk, show n + (l.toArray.size - n) = l.toArray.size by omega] at R
 exact R
theorem zf {id : Nat} {Q : Exit -> Act -> World -> Prop} {a : Act} {w : World} {l : List Oper} (n : Nat) (hm : P.follows .mixedOrders = true) (hB : Region.lexTailB .any l.toArray n = true)
  (h : wpQuiet P l.toArray (fun w' => ∃ p : Regrown, w' = grow (redrawn w p.d) p.os) (fun a' => ∀ w', (∃ p : Regrown, w' = grow (redrawn w p.d) p.os) -> wpList P l.toArray Q (l.drop n) a' w') (l.take n) a) :
  (Code.region id l.toArray true).wp P Q a w :=
 Xw n hm hB ⟨⟨w.drawn + 1, #[]⟩, by rw [grow_empty]; rfl⟩ h
theorem qk {id : Nat} {Q : Exit -> Act -> World -> Prop} {a : Act} {w : World} {l : List Oper} (n : Nat) (hm : P.follows .mixedOrders = true) (hB : Region.lexTailB .any l.toArray n = true)
  (h : wpQuiet P l.toArray (fun w' => ∃ m, w' = w.drewN m) (fun a' => ∀ w', (∃ m, w' = w.drewN m) -> wpList P l.toArray Q (l.drop n) a' w') (l.take n) a) :
  (Code.region id l.toArray true).wp P Q a w :=
 Xw n hm hB ⟨1, rfl⟩ h
end
end
section
open Go.RowKit Go.Sort
structure C4 (w : World) (b : Nat) (x0 x1 x2 x3 : Value) : Prop where
 c0 : w.cell? ⟨b, 0, none⟩ = some x0
 c1 : w.cell? ⟨b, 1, none⟩ = some x1
 c2 : w.cell? ⟨b, 2, none⟩ = some x2
 c3 : w.cell? ⟨b, 3, none⟩ = some x3
 f0 : w.frozen? ⟨b, 0, none⟩ = false
 f1 : w.frozen? ⟨b, 1, none⟩ = false
 f2 : w.frozen? ⟨b, 2, none⟩ = false
 f3 : w.frozen? ⟨b, 3, none⟩ = false
theorem C4.far {w : World} {b b' o : Nat} {x0 x1 x2 x3 y : Value} (h : C4 w b x0 x1 x2 x3) (n : b ≠ b') : C4 (w.setCell ⟨b', o, none⟩ y) b x0 x1 x2 x3 := by
 obtain ⟨a0, a1, a2, a3, f0, f1, f2, f3⟩ := h
 constructor <;> simp [go_sem, *]
theorem C4.put {w : World} {b : Nat} {x0 x1 x2 x3 : Value} (h : C4 w b x0 x1 x2 x3) (y0 y1 y2 y3 : Value) : C4 ((((w.setCell ⟨b, 0, none⟩ y0).setCell ⟨b, 1, none⟩ y1).setCell ⟨b, 2, none⟩ y2).setCell ⟨b, 3, none⟩ y3) b y0 y1 y2 y3 := by
 obtain ⟨a0, a1, a2, a3, f0, f1, f2, f3⟩ := h
 constructor <;> simp [go_sem, *]
structure C3 (w : World) (b : Nat) (x0 x1 x2 : Value) : Prop where
 c0 : w.cell? ⟨b, 0, none⟩ = some x0
 c1 : w.cell? ⟨b, 1, none⟩ = some x1
 c2 : w.cell? ⟨b, 2, none⟩ = some x2
 f0 : w.frozen? ⟨b, 0, none⟩ = false
 f1 : w.frozen? ⟨b, 1, none⟩ = false
 f2 : w.frozen? ⟨b, 2, none⟩ = false
theorem C3.keep {w w' : World} {B b : Nat} {x0 x1 x2 : Value} (h : C3 w b x0 x1 x2) (hb : Below B w w') (hB : b < B) : C3 w' b x0 x1 x2 :=
  ⟨(hb.cell (p := ⟨b, 0, none⟩) hB).trans h.c0, (hb.cell (p := ⟨b, 1, none⟩) hB).trans h.c1, (hb.cell (p := ⟨b, 2, none⟩) hB).trans h.c2,
   (hb.frozen (p := ⟨b, 0, none⟩) hB).trans h.f0, (hb.frozen (p := ⟨b, 1, none⟩) hB).trans h.f1, (hb.frozen (p := ⟨b, 2, none⟩) hB).trans h.f2⟩
theorem C3.lt {w : World} {b : Nat} {x0 x1 x2 : Value} (h : C3 w b x0 x1 x2) : b < w.heap.size := block_lt_of_cell h.c0
theorem C3.far {w : World} {b b' o : Nat} {x0 x1 x2 y : Value} (h : C3 w b x0 x1 x2) (n : b ≠ b') : C3 (w.setCell ⟨b', o, none⟩ y) b x0 x1 x2 := by
 obtain ⟨a0, a1, a2, f0, f1, f2⟩ := h
 constructor <;> simp [go_sem, *]
theorem C3.set0 {w : World} {b : Nat} {x0 x1 x2 : Value} (h : C3 w b x0 x1 x2) (y : Value) : C3 (w.setCell ⟨b, 0, none⟩ y) b y x1 x2 := by
 obtain ⟨a0, a1, a2, f0, f1, f2⟩ := h
 constructor <;> simp [go_sem, *]
theorem C3.set1 {w : World} {b : Nat} {x0 x1 x2 : Value} (h : C3 w b x0 x1 x2) (y : Value) : C3 (w.setCell ⟨b, 1, none⟩ y) b x0 y x2 := by
 obtain ⟨a0, a1, a2, f0, f1, f2⟩ := h
 constructor <;> simp [go_sem, *]
theorem C3.set2 {w : World} {b : Nat} {x0 x1 x2 : Value} (h : C3 w b x0 x1 x2) (y : Value) : C3 (w.setCell ⟨b, 2, none⟩ y) b x0 x1 y := by
 obtain ⟨a0, a1, a2, f0, f1, f2⟩ := h
 constructor <;> simp [go_sem, *]
theorem C3.put {w : World} {b : Nat} {x0 x1 x2 : Value} (h : C3 w b x0 x1 x2) (y0 y1 y2 : Value) : C3 (((w.setCell ⟨b, 0, none⟩ y0).setCell ⟨b, 1, none⟩ y1).setCell ⟨b, 2, none⟩ y2) b y0 y1 y2 := ((h.set0 y0).set1 y1).set2 y2
theorem C3.draw {w : World} {b : Nat} {x0 x1 x2 : Value} (h : C3 w b x0 x1 x2) (n : Nat) : C3 (w.drewN n) b x0 x1 x2 := ⟨h.c0, h.c1, h.c2, h.f0, h.f1, h.f2⟩
theorem C3.alloc {w : World} {b : Nat} {x0 x1 x2 : Value} (h : C3 w b x0 x1 x2) (o : Obj) : C3 (w.alloc o) b x0 x1 x2 := h.keep ((Below.refl w.heap.size w).alloc zdA o) h.lt
end
section
open Go Go.Sort Go.RowKit
def tokV : Value := .tuple #[.bool true, .bool false]
section
variable {P : Program} {ops : Array Oper} {md : Region.Mode} {C : World -> Prop} {ts : List Tmp} {R : Tmp -> Value -> World -> Prop}
def SimT (ts : List Tmp) (R : Tmp -> Value -> World -> Prop) (a b : Act) (w : World) (t : Tmp) : Prop :=
 (t ∈ ts /\ b.tmps.getD t undef = tokV /\ R t (a.tmps.getD t undef) w) \/ (¬ (t ∈ ts /\ b.tmps.getD t undef = tokV) /\ a.tmps.getD t undef = b.tmps.getD t undef)
structure SimA (ts : List Tmp) (R : Tmp -> Value -> World -> Prop) (a b : Act) (w : World) : Prop where
 size : a.tmps.size = b.tmps.size
 defs : a.defers = b.defers
 all : ∀ t, SimT ts R a b w t
def jB (P : Program) (w : World) (r : Value -> World -> Prop) : Result Next -> Prop
 | .ok (.value u) w' => Below w.heap.size w w' /\ r u w'
 | .ok .skip w' => Below w.heap.size w w' /\ r undef w'
 | .ok (.enter f args) w' => Below w.heap.size w w' /\ Calls P f args w' (fun e w'' => ∃ v, e = .returned v /\ r v w'' /\ Below w.heap.size w w'')
 | _ => False
def stepV (P : Program) (ops : Array Oper) (C : World -> Prop) (ts : List Tmp) (R : Tmp -> Value -> World -> Prop) (o : Oper) (x : Value) (b : Act) : Prop :=
 (¬ (x = tokV /\ ∃ d ∈ ts, o.dst = some d) /\ ∀ w a, C w -> (∀ t ∈ o.looksAt ops, SimT ts R a b w t) -> jB P w (fun u _ => u = x) ((execOp a.eval o).run P w))
 \/ (x = tokV /\ ∃ d ∈ ts, o.dst = some d /\ d < b.tmps.size /\ ∀ w a, C w -> (∀ t ∈ o.looksAt ops, SimT ts R a b w t) -> jB P w (R d) ((execOp a.eval o).run P w))
def yieldS (P : Program) (ops : Array Oper) (C : World -> Prop) (ts : List Tmp) (R : Tmp -> Value -> World -> Prop) (o : Oper) (x : Value) (b : Act) : Prop :=
 (Region.wanted o (yielded ops b.tmps) = true /\ stepV P ops C ts R o x b) \/ (Region.wanted o (yielded ops b.tmps) = false /\ x = undef)
def sOp (P : Program) (ops : Array Oper) (C : World -> Prop) (ts : List Tmp) (R : Tmp -> Value -> World -> Prop) (i : Nat) (K : Act -> Prop) (b : Act) : Prop :=
 match ops[i]? with
 | none => K b
 | some o => ∃ x, yieldS P ops C ts R o x b /\ K (b.put o.dst x)
def wpS (P : Program) (ops : Array Oper) (C : World -> Prop) (ts : List Tmp) (R : Tmp -> Value -> World -> Prop) (K : Act -> Prop) : List Oper -> Act -> Prop
 | [], b => K b
 | o :: l, b => ∃ x, yieldS P ops C ts R o x b /\ wpS P ops C ts R K l (b.put o.dst x)
theorem kE (a : Act) (d : Option Tmp) (v : Value) (t : Tmp) : (a.put d v).tmps.getD t undef = if d = some t /\ t < a.tmps.size then v else a.tmps.getD t undef := by
 cases d with
 | none => simp [Act.put]
 | some d =>
  simp only [Act.put, Option.some.injEq]
  by_cases e : d = t
  ·subst e
   by_cases h : d < a.tmps.size
   ·simp [h]
   ·simp [h]
  ·simp [e, Array.getElem?_setIfInBounds_ne e]
theorem zQ (a : Act) (d : Option Tmp) (v : Value) : (a.put d v).tmps.size = a.tmps.size := by cases d <;> simp [Act.put]
theorem Qt (a : Act) (d : Option Tmp) (v : Value) : (a.put d v).defers = a.defers := by cases d <;> rfl
theorem simT_put {a b : Act} {w : World} {d : Option Tmp} {v : Value} {t : Tmp} (h : d ≠ some t) : SimT ts R a (b.put d v) w t ↔ SimT ts R a b w t := by
 unfold SimT
 rw [kE, if_neg (fun e => h e.1)]
theorem zbO {o oi : Oper} {x v : Value} {b : Act} (h : ∀ d, oi.dst = some d -> d ∉ o.looksAt ops) : stepV P ops C ts R o x (b.put oi.dst v) ↔ stepV P ops C ts R o x b := by
 have e : ∀ a w, (∀ t ∈ o.looksAt ops, SimT ts R a (b.put oi.dst v) w t) ↔ (∀ t ∈ o.looksAt ops, SimT ts R a b w t) := fun a w =>
  forall_congr' fun t => forall_congr' fun ht => simT_put (fun q => h t q ht)
 unfold stepV
 simp only [e, zQ]
theorem Xx {o oi : Oper} {x v : Value} {b : Act} (h : ∀ d, oi.dst = some d -> d ∉ o.looksAt ops) : yieldS P ops C ts R o x (b.put oi.dst v) ↔ yieldS P ops C ts R o x b := by
 unfold yieldS
 rw [wanted_put o b oi.dst v h, zbO h]
theorem sOp_mono {i : Nat} {b : Act} {K K' : Act -> Prop} (h : ∀ b, K b -> K' b) (hh : sOp P ops C ts R i K b) : sOp P ops C ts R i K' b := by
 unfold sOp at *
 split
 ·rename_i e; rw [e] at hh; exact h _ hh
 ·rename_i o e
  rw [e] at hh
  obtain ⟨x, h1, h2⟩ := hh
  exact ⟨x, h1, h _ h2⟩
theorem yieldS.sOp {i : Nat} {o : Oper} {v : Value} {b : Act} (hi : ops[i]? = some o) (hy : yieldS P ops C ts R o v b) {K : Act -> Prop} (h : K (b.put o.dst v)) : sOp P ops C ts R i K b := by
 unfold Go.Proofs.YtmaofighbpnbiaaGreatDoor.sOp
 rw [hi]
 exact ⟨v, hy, h⟩
theorem sOp_put {j : Nat} {oi oj : Oper} {v : Value} (hj : ops[j]? = some oj) (hap : oi.apart ops oj = true) {K : Act -> Prop} {b : Act}
  (hy : yieldS P ops C ts R oi v b) (h : sOp P ops C ts R j K (b.put oi.dst v)) : sOp P ops C ts R j (fun b' => yieldS P ops C ts R oi v b' /\ K (b'.put oi.dst v)) b := by
 obtain ⟨h1, h2, h3⟩ := Oper.apart_spec hap
 unfold sOp at *
 rw [hj] at h ⊢
 obtain ⟨x, hx, hn⟩ := h
 exact ⟨x, (Xx h1).1 hx, (Xx h3).2 hy, by rw [<- Act.put_comm b v x h2]; exact hn⟩
def vn (ts : List Tmp) (ops : Array Oper) : Bool := ops.all fun o => match o.guard with
 | some (g, _) => (match (ops[g]?).bind (·.dst) with
  | some t => !ts.contains t
  | none => true)
 | none => true
theorem zbP {i : Nat} {o : Oper} {a b : Act} {w : World} (hg : vn ts ops = true) (hi : ops[i]? = some o) (h : SimA ts R a b w) : Region.wanted o (yielded ops a.tmps) = Region.wanted o (yielded ops b.tmps) := by
 unfold Region.wanted
 cases e : o.guard with
 | none => rfl
 | some gw =>
  obtain ⟨g, want⟩ := gw
  have k := Array.all_eq_true_iff_forall_mem.1 hg o (Array.mem_of_getElem? hi)
  rw [e] at k
  simp only at k
  have hy : yielded ops a.tmps g = yielded ops b.tmps g := by
   unfold yielded
   cases ht : (ops[g]?).bind (·.dst) with
   | none => rfl
   | some t =>
    rw [ht] at k
    have nt : t ∉ ts := by simpa using k
    have z : a.tmps.getD t undef = b.tmps.getD t undef := by
     rcases h.all t with ⟨q, _⟩ | ⟨_, q⟩
     ·exact absurd q nt
     ·exact q
    have z2 : a.tmps[t]? = b.tmps[t]? := by
     by_cases lt : t < a.tmps.size
     ·have lt2 : t < b.tmps.size := by rw [<- h.size]; exact lt
      simp [lt, lt2] at z
      simp [lt, lt2, z]
     ·have lt2 : ¬ t < b.tmps.size := by rw [<- h.size]; exact lt
      rw [Array.getElem?_eq_none (Nat.le_of_not_lt lt), Array.getElem?_eq_none (Nat.le_of_not_lt lt2)]
    show (match a.tmps[t]? with | some (Value.bool b) => some b | _ => none) = (match b.tmps[t]? with | some (Value.bool b) => some b | _ => none)
    rw [z2]
  simp only [hy]
theorem Qu {a b : Act} {w w' : World} {d : Option Tmp} {u x : Value} (stab : ∀ t v w w', Below w.heap.size w w' -> R t v w -> R t v w') (h : SimA ts R a b w) (hb : Below w.heap.size w w')
  (hx : (¬ (x = tokV /\ ∃ t ∈ ts, d = some t) /\ u = x) \/ (x = tokV /\ ∃ t ∈ ts, d = some t /\ t < b.tmps.size /\ R t u w')) : SimA ts R (a.put d u) (b.put d x) w' := by
 refine ⟨by rw [zQ, zQ]; exact h.size, by rw [Qt, Qt]; exact h.defs, fun t => ?_⟩
 unfold SimT
 rw [kE, kE, h.size]
 by_cases c : d = some t /\ t < b.tmps.size
 ·rw [if_pos c, if_pos c]
  rcases hx with ⟨n, rfl⟩ | ⟨rfl, t', m, e, l, r⟩
  ·exact Or.inr ⟨fun q => n ⟨q.2, t, q.1, c.1⟩, rfl⟩
  ·rw [c.1] at e
   cases e
   exact Or.inl ⟨m, rfl, r⟩
 ·rw [if_neg c, if_neg c]
  rcases h.all t with ⟨p, q, r⟩ | q
  ·exact Or.inl ⟨p, q, stab _ _ _ _ hb r⟩
  ·exact Or.inr q
theorem zbQ {i : Nat} {a b : Act} {K : Act -> Prop} {K' : Act -> World -> Prop} {Q' : Exit -> Act -> World -> Prop} {w : World} (stab : ∀ t v w w', Below w.heap.size w w' -> R t v w -> R t v w') (hC : ∀ w w', C w -> Below w.heap.size w w' -> C w')
  (hg : vn ts ops = true) (hw : C w) (hs : SimA ts R a b w) (h : ∀ a' b' w', C w' -> SimA ts R a' b' w' -> K b' -> K' a' w') (hh : sOp P ops C ts R i K b) : wpOp P ops Q' i K' a w := by
 unfold sOp at hh
 unfold wpOp
 split
 ·rename_i e; rw [e] at hh; exact h _ _ _ hw hs hh
 ·rename_i o e
  rw [e] at hh
  obtain ⟨x, hy, hK⟩ := hh
  rw [zbP hg e hs]
  rcases hy with ⟨hwa, hy⟩ | ⟨hwa, rfl⟩
  ·rw [if_pos hwa]
   refine Or.inl ?_
   obtain ⟨r, hr, hu⟩ : ∃ r : Value -> World -> Prop, jB P w r ((execOp a.eval o).run P w) /\ ∀ u w', Below w.heap.size w w' -> r u w' -> K' (a.put o.dst u) w' := by
    rcases hy with ⟨n, hy⟩ | ⟨rfl, d, m, ed, l, hy⟩
    ·exact ⟨_, hy w a hw (fun t _ => hs.all t), fun u w' hb e => h _ _ _ (hC _ _ hw hb) (Qu stab hs hb (Or.inl ⟨n, e⟩)) hK⟩
    ·exact ⟨_, hy w a hw (fun t _ => hs.all t), fun u w' hb e => h _ _ _ (hC _ _ hw hb) (Qu stab hs hb (Or.inr ⟨rfl, d, m, ed, l, e⟩)) hK⟩
   unfold Oper.wp
   generalize (execOp a.eval o).run P w = res at *
   cases res with
   | ok n w' =>
    cases n <;> simp only [jB] at hr <;> simp only [Oper.upon]
    case value u => exact hu _ _ hr.1 hr.2
    case skip => exact hu _ _ hr.1 hr.2
    case enter f args =>
     refine hr.2.mono fun e w'' ⟨v, he, hv, hb⟩ => ?_
     subst he
     exact hu _ _ hb hv
   | halt x w' => simp only [jB] at hr
  ·rw [if_neg (by rw [hwa]; decide)]
   refine h _ _ _ hw (Qu stab hs (Below.refl _ _) (Or.inl ⟨fun q => ?_, rfl⟩)) hK
   have := q.1
   unfold tokV at this
   cases this
def HeadS (P : Program) (md : Region.Mode) (ops : Array Oper) (C : World -> Prop) (ts : List Tmp) (R : Tmp -> Value -> World -> Prop) (n : Nat) (L : Array Bool -> Act -> Prop) : Nat -> Array Bool -> Act -> Prop
 | 0, d, b => L d b
 | f + 1, d, b => Region.ready md ops d ≠ [] /\ ∀ i, i ∈ Region.ready md ops d -> i < n /\ sOp P ops C ts R i (fun b' => HeadS P md ops C ts R n L f (d.setIfInBounds i true) b') b
theorem HeadS.any {n g : Nat} {L : Array Bool -> Act -> Prop} {Q' : Exit -> Act -> World -> Prop} (stab : ∀ t v w w', Below w.heap.size w w' -> R t v w -> R t v w') (hC : ∀ w w', C w -> Below w.heap.size w w' -> C w') (hg : vn ts ops = true)
  (tl : ∀ d a b w, C w -> SimA ts R a b w -> L d b -> wpAny P md ops Q' g d a w) (f : Nat) :
  ∀ (d : Array Bool) (a b : Act) (w : World), C w -> SimA ts R a b w -> HeadS P md ops C ts R n L f d b -> wpAny P md ops Q' (f + g) d a w := by
 induction f with
 | zero => intro d a b w hw hs h; rw [Nat.zero_add]; exact tl d a b w hw hs h
 | succ f ih =>
  intro d a b w hw hs h
  have e : f + 1 + g = (f + g) + 1 := by omega
  rw [e]
  refine ⟨fun z => absurd z h.1, fun i hi => ?_⟩
  exact zbQ stab hC hg hw hs (fun a' b' w' hw' hs' k => ih _ a' b' w' hw' hs' k) (h.2 i hi).2
theorem HeadS.first {n i : Nat} {oi : Oper} {v : Value} {L : Array Bool -> Act -> Prop} (hi : ops[i]? = some oi)
  (sink : Region.sinkB md ops n = true) (chain : Region.chainB md ops n = true) (hn : n < ops.size) (hin : i < n) (late : ∀ d b, L d b -> ∀ j ∈ Region.ready md ops d, n <= j) (f : Nat) :
  ∀ (d : Array Bool) (b : Act), HeadInv md ops n d ->
   (∀ j oj, ops[j]? = some oj -> j ≠ i -> d.getD j true = false -> (∀ e ∈ oj.after, Region.binds md e = true -> e.on ≠ i) -> oi.apart ops oj = true) ->
   i ∈ Region.ready md ops d -> yieldS P ops C ts R oi v b -> HeadS P md ops C ts R n L f (d.setIfInBounds i true) (b.put oi.dst v) -> HeadS P md ops C ts R n L (f + 1) d b := by
 induction f with
 | zero =>
  intro d b inv free hr hy H
  refine ⟨List.ne_nil_of_mem hr, fun j hj => ?_⟩
  have lt : j < n := Nat.lt_of_not_le fun h => tail_waits sink chain hn inv _ i rfl hin (mem_ready.1 hr).1 j h hj
  refine ⟨lt, ?_⟩
  rcases Nat.decEq j i with ne | e
  ·exact absurd (late _ _ H j (ready_mono hj ne)) (by omega)
  ·subst e; exact hy.sOp hi H
 | succ f ih =>
  intro d b inv free hr hy H
  refine ⟨List.ne_nil_of_mem hr, fun j hj => ?_⟩
  have lt : j < n := Nat.lt_of_not_le fun h => tail_waits sink chain hn inv _ i rfl hin (mem_ready.1 hr).1 j h hj
  refine ⟨lt, ?_⟩
  rcases Nat.decEq j i with ne | e
  ·obtain ⟨ju, oj, hoj, all⟩ := mem_ready.1 hj
   have nw : ∀ e ∈ oj.after, Region.binds md e = true -> e.on ≠ i := by
    intro e he hb q
    have := all e he hb
    rw [q, getD_both (mem_ready.1 hr).1] at this
    exact Bool.false_ne_true this
   have k := sOp_put hoj (free j oj hoj ne ju nw) hy (H.2 j (ready_mono hj ne)).2
   refine sOp_mono (fun b' x => ?_) k
   refine ih (d.setIfInBounds j true) b' (inv.set hj lt) (fun m om hm mi mu mw => ?_) (ready_mono hr (Ne.symm ne)) x.1 (by rw [Array.setIfInBounds_comm _ _ ne]; exact x.2)
   refine free m om hm mi ?_ mw
   rcases Nat.decEq j m with jm | jm
   ·rw [getD_set_ne true jm] at mu; exact mu
   ·subst jm; exact ju
  ·subst e; exact hy.sOp hi H
theorem HeadS.lex {n g : Nat} {K : Act -> Prop} (sink : Region.sinkB md ops n = true) (chain : Region.chainB md ops n = true) (hn : n < ops.size) (l : List Oper) :
  ∀ (k : Nat) (d : Array Bool) (b : Act), (∀ j, j < l.length -> l[j]? = ops[k + j]?) -> k + l.length = n -> HeadInv md ops n d -> Region.lexHead md ops g l.length k d = true -> wpS P ops C ts R K l b ->
  HeadS P md ops C ts R n (fun d' b' => Region.seqB md ops g n d' = true /\ K b') l.length d b := by
 induction l with
 | nil =>
  intro k d b _ hk _ hB h
  have e : k = n := hk
  subst e
  exact ⟨hB, h⟩
 | cons o l ih =>
  intro k d b hl hk inv hB h
  have ho : ops[k]? = some o := (hl 0 (by simp)).symm
  simp only [List.length_cons, Region.lexHead, Bool.and_eq_true, List.contains_iff_mem] at hB
  simp only [List.length_cons] at hk
  obtain ⟨v, hy, hK⟩ := h
  refine HeadS.first ho sink chain hn (by omega) (fun d' b' z => seqB_ready z.1) l.length d b inv (Region.free_spec ho hB.1.2) hB.1.1 hy ?_
  refine ih (k + 1) _ _ (fun j hj => ?_) (by omega) (inv.set hB.1.1 (by omega)) hB.2 hK
  have := hl (j + 1) (by simp; omega)
  rw [show k + 1 + j = k + (j + 1) by omega, <- this]
  rfl
def zR (vs : Tmp -> Value) : List Tmp -> Act -> Act
 | [], b => b
 | t :: r, b => (zR vs r b).put (some t) (vs t)
theorem Xy (vs : Tmp -> Value) (t : Tmp) : ∀ (l : List Tmp) (b : Act), (zR vs l b).tmps.size = b.tmps.size /\ (zR vs l b).defers = b.defers /\ (zR vs l b).tmps.getD t undef = if t ∈ l /\ t < b.tmps.size then vs t else b.tmps.getD t undef := by
 intro l
 induction l with
 | nil => intro b; simp [zR]
 | cons s r ih =>
  intro b
  obtain ⟨h1, h2, h3⟩ := ih b
  refine ⟨by unfold zR; rw [zQ, h1], by unfold zR; rw [Qt, h2], ?_⟩
  unfold zR
  rw [kE, h1, h3]
  by_cases e : s = t
  ·subst e
   by_cases l : s < b.tmps.size
   ·simp [l]
   ·simp [l]
  ·by_cases l : t < b.tmps.size
   ·simp [l, e, Ne.symm e]
   ·simp [l, e]
theorem sim_fill {a b : Act} {w : World} (h : SimA ts R a b w) : ∃ vs : Tmp -> Value, a = zR vs ts b /\ ∀ t ∈ ts, b.tmps.getD t undef = tokV -> R t (vs t) w := by
 refine ⟨fun t => a.tmps.getD t undef, ?_, fun t ht e => ?_⟩
 ·obtain ⟨at_, ad⟩ := a
  obtain ⟨f1, f2, _⟩ := Xy (fun t => at_.getD t undef) 0 ts b
  have e1 : at_ = (zR (fun t => at_.getD t undef) ts b).tmps := by
   refine Array.ext (by rw [f1]; exact h.size) fun i h1 h2 => ?_
   have g := (Xy (fun t => at_.getD t undef) i ts b).2.2
   have z : at_.getD i undef = (zR (fun t => at_.getD t undef) ts b).tmps.getD i undef := by
    rw [g]
    by_cases c : i ∈ ts /\ i < b.tmps.size
    ·rw [if_pos c]
    ·rw [if_neg c]
     have lt : i < b.tmps.size := by rw [<- h.size]; exact h1
     rcases h.all i with ⟨q, _⟩ | ⟨_, q⟩
     ·exact absurd ⟨q, lt⟩ c
     ·exact q
   have l1 : at_.getD i undef = at_[i] := by simp [h1]
   have l2 : (zR (fun t => at_.getD t undef) ts b).tmps.getD i undef = (zR (fun t => at_.getD t undef) ts b).tmps[i] := by rw [Array.getD_eq_getD_getElem?, Array.getElem?_eq_getElem h2]; rfl
   rw [<- l1, <- l2, z]
  have e2 : ad = (zR (fun t => at_.getD t undef) ts b).defers := by rw [f2]; exact h.defs
  show (⟨at_, ad⟩ : Act) = zR (fun t => at_.getD t undef) ts b
  calc (⟨at_, ad⟩ : Act) = ⟨(zR (fun t => at_.getD t undef) ts b).tmps, (zR (fun t => at_.getD t undef) ts b).defers⟩ := by rw [<- e1, <- e2]
   _ = _ := rfl
 ·rcases h.all t with ⟨_, _, r⟩ | ⟨n, _⟩
  ·exact r
  ·exact absurd ⟨ht, e⟩ n
def qO (w : World) : World -> Prop := fun w' => ∃ p : Regrown, w' = grow (redrawn w p.d) p.os
theorem jC {w w' : World} : qO w w' ↔ Below w.heap.size w w' :=
 ⟨fun ⟨p, e⟩ => by rw [e]; exact below_regrown _ _ _, fun h => regrown_of_below h⟩
theorem zbR {id : Nat} {Q : Exit -> Act -> World -> Prop} {a : Act} {w : World} {l : List Oper} (n : Nat) (ts : List Tmp) (R : Tmp -> Value -> World -> Prop) (hm : P.follows .mixedOrders = true)
  (hB : Region.lexTailB .any l.toArray n = true) (hg : vn ts l.toArray = true) (h0 : ∀ t ∈ ts, a.tmps.getD t undef ≠ tokV) (stab : ∀ t v w w', Below w.heap.size w w' -> R t v w -> R t v w')
  (h : wpS P l.toArray (qO w) ts R (fun b => ∀ w' vs, qO w w' -> (∀ t ∈ ts, b.tmps.getD t undef = tokV -> R t (vs t) w') -> wpList P l.toArray Q (l.drop n) (zR vs ts b) w') (l.take n) a) :
  (Code.region id l.toArray true).wp P Q a w := by
 simp only [Region.lexTailB, Bool.and_eq_true, decide_eq_true_eq] at hB
 obtain ⟨⟨⟨⟨hsel, hn⟩, sink⟩, chain⟩, lx⟩ := hB
 have tk : (l.take n).length = n := by rw [List.length_take]; simp at hn; omega
 have dk : (l.drop n).length = l.toArray.size - n := by simp
 have inv : HeadInv .any l.toArray n (Array.replicate l.toArray.size false) :=
  ⟨by simp, fun j oj _ z => by rw [getD_replicate_false] at z; exact absurd z (by decide), fun t _ ht => getD_in (by simpa using ht) (getD_replicate_false _ _)⟩
 have hC : ∀ w1 w2, qO w w1 -> Below w1.heap.size w1 w2 -> qO w w2 := fun w1 w2 h1 h2 => jC.2 ((jC.1 h1).trans (h2.mono (jC.1 h1).size))
 have s0 : SimA ts R a a w.drew := ⟨rfl, rfl, fun t => Or.inr ⟨fun q => h0 t q.1 q.2, rfl⟩⟩
 have c0 : qO w w.drew := jC.2 ⟨rfl, rfl, rfl, zdA, fun _ _ => rfl⟩
 refine wp_region_any hm ?_
 have H := HeadS.lex (md := .any) (g := l.toArray.size - n) sink chain hn (l.take n) 0 (Array.replicate l.toArray.size false) a (fun j hj => by
  rw [tk] at hj
  simp [hj]) (by omega) inv (by rw [tk]; exact lx) h
 have X := HeadS.any (Q' := Q) (g := l.toArray.size - n) stab hC hg (fun d a' b' w' hw' hs' z => by
  obtain ⟨vs, rfl, hv⟩ := sim_fill hs'
  have := wpAny_of_seq (md := .any) (Q' := Q) (l.drop n) n d (zR vs ts b') w' (fun j => by simp [List.getElem?_drop]) (by rw [dk]; exact z.1) (z.2 w' vs hw' hv)
  rwa [dk] at this) (l.take n).length _ a a w.drew c0 s0 H
 rw [tk, show n + (l.toArray.size - n) = l.toArray.size by omega] at X
 exact X
@[go_sem] def vo (P : Program) (w : World) (v : Value) : Result Next -> Prop
 | .ok (.value u) w' => w' = w /\ u = v
 | .ok .skip w' => w' = w /\ v = undef
 | .ok (.enter f args) w' => w' = w /\ Calls P f args w (fun e w'' => e = .returned v /\ qO w w'')
 | _ => False
theorem Xz {w : World} {v : Value} {r : Result Next} (h : vo P w v r) : jB P w (fun u _ => u = v) r := by
 cases r with
 | ok n w' =>
  cases n <;> simp only [vo] at h <;> simp only [jB]
  case value u => exact ⟨by rw [h.1]; exact Below.refl _ _, h.2⟩
  case skip => exact ⟨by rw [h.1]; exact Below.refl _ _, h.2.symm⟩
  case enter f args =>
   obtain ⟨rfl, hc⟩ := h
   exact ⟨Below.refl _ _, hc.mono fun e w'' ⟨he, hb⟩ => ⟨v, he, rfl, jC.1 hb⟩⟩
 | halt x w' => simp only [vo] at h
@[go_sem] def quietS (P : Program) (o : Oper) (b : Act) (w0 : World) (K : Act -> Prop) : Prop := ∃ v, (∀ p : Regrown, vo P (grow (redrawn w0 p.d) p.os) v ((execOp b.eval o).run P (grow (redrawn w0 p.d) p.os))) /\ K (b.put o.dst v)
def XC (ts : List Tmp) (ops : Array Oper) (o : Oper) : Bool := (o.looksAt ops).all (fun t => !ts.contains t) && (match o.dst with | some d => !ts.contains d | none => true) && (match o.op with | .select _ _ => false | _ => true)
theorem XF {o : Oper} {a b : Act} {w : World} (hs : ∀ cs d, o.op ≠ .select cs d) (hp : ∀ t ∈ o.looksAt ops, t ∉ ts) (h : ∀ t ∈ o.looksAt ops, SimT ts R a b w t) : execOp a.eval o = execOp b.eval o := by
 refine execOp_congr o hs fun x hx => ?_
 cases x with
 | tmp t =>
  have m : t ∈ o.looksAt ops := List.mem_append_left _ (List.mem_filterMap.2 ⟨.tmp t, by simpa using hx, rfl⟩)
  rcases h t m with ⟨q, _⟩ | ⟨_, q⟩
  ·exact absurd q (hp t m)
  ·exact q
 | _ => rfl
theorem xE {K : Act -> Prop} {b : Act} (h : K b) : wpS P ops C ts R K [] b := h
theorem xk {w0 : World} {K0 : Act -> Prop} {b : Act} {o : Oper} {rest : List Oper} (hp : XC ts ops o = true)
  (h : ∀ K : Act -> Prop, (∀ b, wpS P ops (qO w0) ts R K0 rest b -> K b) -> if Region.wanted o (yielded ops b.tmps) then quietS P o b w0 K else K (b.put o.dst undef)) : wpS P ops (qO w0) ts R K0 (o :: rest) b := by
 have k := h _ (fun _ h => h)
 simp only [XC, Bool.and_eq_true, List.all_eq_true] at hp
 obtain ⟨⟨p1, p2⟩, p3⟩ := hp
 split at k
 ·rename_i hw
  obtain ⟨v, hv, hk⟩ := k
  refine ⟨v, Or.inl ⟨hw, Or.inl ⟨?_, fun w a hC hl => ?_⟩⟩, hk⟩
  ·rintro ⟨_, d, m, e⟩
   rw [e] at p2
   simp at p2
   exact p2 m
  ·obtain ⟨p, rfl⟩ := hC
   rw [XF (fun cs d e => by rw [e] at p3; cases p3) (fun t ht => by have := p1 t ht; simpa using this) hl]
   exact Xz (hv p)
 ·rename_i hw
  exact ⟨undef, Or.inr ⟨by simpa using hw, rfl⟩, k⟩
theorem jS {w0 : World} {K0 : Act -> Prop} {b : Act} {o : Oper} {rest : List Oper} (d : Tmp) (hd : o.dst = some d) (hm : d ∈ ts) (hs : d < b.tmps.size) (hw : Region.wanted o (yielded ops b.tmps) = true)
  (hp : (o.looksAt ops).all (fun t => !ts.contains t) = true) (hsel : ∀ cs d, o.op ≠ .select cs d)
  (h : ∀ p : Regrown, jB P (grow (redrawn w0 p.d) p.os) (R d) ((execOp b.eval o).run P (grow (redrawn w0 p.d) p.os))) (k : wpS P ops (qO w0) ts R K0 rest (b.put o.dst tokV)) : wpS P ops (qO w0) ts R K0 (o :: rest) b := by
 refine ⟨tokV, Or.inl ⟨hw, Or.inr ⟨rfl, d, hm, hd, hs, fun w a hC hl => ?_⟩⟩, k⟩
 obtain ⟨p, rfl⟩ := hC
 rw [XF hsel (fun t ht => by have := List.all_eq_true.1 hp t ht; simpa using this) hl]
 exact h p
theorem wpS_use {w0 : World} {K0 : Act -> Prop} {b : Act} {o : Oper} {rest : List Oper} (t : Tmp) (v : Value) (hm : t ∈ ts) (hs : t < b.tmps.size) (hb : b.tmps.getD t undef = tokV) (hw : Region.wanted o (yielded ops b.tmps) = true)
  (hin : (o.looksAt ops).contains t = true) (hp : (o.looksAt ops).all (fun s => s == t || !ts.contains s) = true) (hd : (match o.dst with | some d => !ts.contains d | none => true) = true) (hsel : ∀ cs d, o.op ≠ .select cs d)
  (h : ∀ (p : Regrown) u, R t u (grow (redrawn w0 p.d) p.os) -> vo P (grow (redrawn w0 p.d) p.os) v ((execOp (b.put (some t) u).eval o).run P (grow (redrawn w0 p.d) p.os)))
  (k : wpS P ops (qO w0) ts R K0 rest (b.put o.dst v)) : wpS P ops (qO w0) ts R K0 (o :: rest) b := by
 refine ⟨v, Or.inl ⟨hw, Or.inl ⟨?_, fun w a hC hl => ?_⟩⟩, k⟩
 ·rintro ⟨_, d, m, e⟩
  rw [e] at hd
  simp at hd
  exact hd m
 ·obtain ⟨p, rfl⟩ := hC
  have ht : t ∈ o.looksAt ops := by simpa using hin
  have r : R t (a.tmps.getD t undef) (grow (redrawn w0 p.d) p.os) := by
   rcases hl t ht with ⟨_, _, r⟩ | ⟨n, _⟩
   ·exact r
   ·exact absurd ⟨hm, hb⟩ n
  have e : execOp a.eval o = execOp (b.put (some t) (a.tmps.getD t undef)).eval o := by
   refine execOp_congr o hsel fun x hx => ?_
   cases x with
   | tmp s =>
    have m : s ∈ o.looksAt ops := List.mem_append_left _ (List.mem_filterMap.2 ⟨.tmp s, by simpa using hx, rfl⟩)
    show a.tmps.getD s undef = (b.put (some t) (a.tmps.getD t undef)).tmps.getD s undef
    rw [kE]
    by_cases q : t = s
    ·subst q; rw [if_pos ⟨rfl, hs⟩]
    ·rw [if_neg (fun z => q (Option.some.inj z.1))]
     have := List.all_eq_true.1 hp s m
     rcases hl s m with ⟨z, _⟩ | ⟨_, z⟩
     ·simp [Ne.symm q] at this; exact absurd z this
     ·exact z
   | _ => rfl
  rw [e]
  exact Xz (h p _ r)
end
structure Spec where
 r : Value -> World -> Prop
 stab : ∀ v w w', Below w.heap.size w w' -> r v w -> r v w'
def kF (l : List (Tmp × Spec)) (t : Tmp) (v : Value) (w : World) : Prop := ((l.lookup t).map fun s => s.r v w).getD False
theorem zbS (l : List (Tmp × Spec)) (t : Tmp) (v : Value) (w w' : World) (hb : Below w.heap.size w w') (h : kF l t v w) : kF l t v w' := by
 unfold kF at *
 cases e : l.lookup t with
 | none => rw [e] at h; exact h
 | some s => rw [e] at h; exact s.stab _ _ _ hb h
theorem xF {P : Program} {id : Nat} {Q : Exit -> Act -> World -> Prop} {a : Act} {w : World} {l : List Oper} (n : Nat) (sp : List (Tmp × Spec)) (ts : List Tmp) (hm : P.follows .mixedOrders = true)
  (hB : Region.lexTailB .any l.toArray n = true) (hg : vn ts l.toArray = true) (h0 : ∀ t ∈ ts, a.tmps.getD t undef ≠ tokV)
  (h : wpS P l.toArray (qO w) ts (kF sp) (fun b => ∀ w' vs, qO w w' -> (∀ t ∈ ts, b.tmps.getD t undef = tokV -> kF sp t (vs t) w') -> wpList P l.toArray Q (l.drop n) (zR vs ts b) w') (l.take n) a) :
  (Code.region id l.toArray true).wp P Q a w := zbR n ts (kF sp) hm hB hg h0 (zbS sp) h
def NewC (B : Nat) (cs : List Value) (v : Value) (w : World) : Prop := ∃ g, v = .pointer (some ⟨g, 0, none⟩) /\ B <= g /\ g < w.heap.size /\ ∀ i u, cs[i]? = some u -> w.cell? ⟨g, i, none⟩ = some u /\ w.frozen? ⟨g, i, none⟩ = false
theorem NewC.stab {B : Nat} {cs : List Value} {v : Value} {w w' : World} (hb : Below w.heap.size w w') (h : NewC B cs v w) : NewC B cs v w' := by
 obtain ⟨g, e, b, l, c⟩ := h
 exact ⟨g, e, b, Nat.lt_of_lt_of_le l hb.size, fun i u hu => ⟨(hb.cell (p := ⟨g, i, none⟩) l).trans (c i u hu).1, (hb.frozen (p := ⟨g, i, none⟩) l).trans (c i u hu).2⟩⟩
def newS (B : Nat) (cs : List Value) : Spec := ⟨NewC B cs, fun _ _ _ => NewC.stab⟩
theorem Qv (w : World) (cs : List Value) (T : TypeId) (i : Nat) (u : Value) (h : cs[i]? = some u) : (w.alloc (.cells cs.toArray T)).cell? ⟨w.heap.size, i, none⟩ = some u /\ (w.alloc (.cells cs.toArray T)).frozen? ⟨w.heap.size, i, none⟩ = false := by
 simp [go_sem, h]
end
section
open Go.RowKit
def Sees (w : World) (B : Nat) (A : Option Addr) (xs : List Value) : Prop :=
 xs ≠ [] -> ∃ ad, A = some ad /\ ad.block < B /\ ∀ j u, xs[j]? = some u -> w.cell? (ad.add j) = some u
theorem z8 (a : Addr) (n : Nat) : (a.add n).block = a.block := by unfold Addr.add; split <;> rfl
theorem Sees.nil (w : World) (B : Nat) (A : Option Addr) : Sees w B A [] := fun h => absurd rfl h
theorem Sees.at {w : World} {B : Nat} {A : Option Addr} {xs : List Value} (h : Sees w B A xs) {k : Nat} (hk : k < xs.length) : ∃ ad, A = some ad /\ ad.block < B /\ w.cell? (ad.add k) = some xs[k] := by
 obtain ⟨ad, e, b, c⟩ := h (fun e => by subst e; cases hk)
 exact ⟨ad, e, b, c k _ (List.getElem?_eq_getElem hk)⟩
theorem Sees.below {w w' : World} {B B' : Nat} {A : Option Addr} {xs : List Value} (h : Sees w B A xs) (hb : Below B' w w') (hB : B <= B') : Sees w' B A xs := fun n => by
 obtain ⟨ad, e, b, c⟩ := h n
 exact ⟨ad, e, b, fun j u hu => (hb.cell (by rw [z8]; omega)).trans (c j u hu)⟩
theorem Sees.more {w : World} {B B' : Nat} {A : Option Addr} {xs : List Value} (h : Sees w B A xs) (hB : B <= B') : Sees w B' A xs := fun n => by
 obtain ⟨ad, e, b, c⟩ := h n
 exact ⟨ad, e, by omega, c⟩
theorem Sees.of_own {w : World} {base : Nat} {T : TypeId} {A : Option Addr} {n c : Nat} {xs : List Value} (h : w.ownsRow base T 1 (.slice A n c) n xs) : Sees w w.heap.size A xs := fun hne => by
 rcases h.2 with ⟨_, h0⟩ | ⟨g, cap, cur, e, _, hg, _⟩
 ·exact absurd (List.eq_nil_of_length_eq_zero (by have := h.1; simpa [h0] using this)) hne
 ·injection e with e1
  subst e1
  exact ⟨_, rfl, block_lt_of_row hg, h.cells (g := g) rfl⟩
where
 block_lt_of_row {w : World} {g : Nat} {o : Obj} (h : w.heap[g]? = some o) : g < w.heap.size := by
  rcases Nat.lt_or_ge g w.heap.size with l | l
  ·exact l
  ·rw [Array.getElem?_eq_none l] at h; cases h
theorem Qw {w w' : World} {base : Nat} {T : TypeId} {v : Value} {n : Nat} {xs : List Value} (h : w.ownsRow base T 1 v n xs) (hb : Below w.heap.size w w') : w'.ownsRow base T 1 v n xs :=
 h.kept (row := none) ⟨hb.os, hb.tape, hb.output, hb.size, fun k hk _ => hb.block k hk⟩ (by cases v.ownBlock <;> simp)
theorem kG {w : World} {base : Nat} {T : TypeId} {v : Value} {n : Nat} {xs : List Value} (h : w.ownsRow base T 1 v n xs) : xs.length = n /\ ((v = .slice none 0 0 /\ n = 0) \/ ∃ g c, v = .slice (some ⟨g, 0, none⟩) n c /\ base <= g /\ g < w.heap.size /\ n <= c /\ c <= maxLen) := by
 refine ⟨by simpa using h.1, ?_⟩
 rcases h.2 with a | ⟨g, cap, cur, e, b, hg, n1, n2, _⟩
 ·exact Or.inl a
 ·exact Or.inr ⟨g, cap, e, b, Sees.of_own.block_lt_of_row hg, n1, n2⟩
theorem own_take {w : World} {base : Nat} {T : TypeId} {g n m c : Nat} {xs : List Value} (h : w.ownsRow base T 1 (.slice (some ⟨g, 0, none⟩) n c) n xs) (hm : m <= n) : w.ownsRow base T 1 (.slice (some ⟨g, 0, none⟩) m c) m (xs.take m) := by
 have hl : xs.length = n := by simpa using h.1
 refine ⟨by simp; omega, ?_⟩
 rcases h.2 with ⟨e, _⟩ | ⟨g', c', cur, e, b, hg, n1, n2, n3, n4⟩
 ·cases e
 ·injection e with e1 e2 e3
  injection e1 with e1
  injection e1 with e1
  subst e1 e3
  refine Or.inr ⟨g, c, cur, rfl, b, hg, by omega, n2, n3, ?_⟩
  rw [<- n4, List.take_take, Nat.mul_one, Nat.mul_one, Nat.min_eq_left hm]
end
section
open Go.RowKit Go.Sort
set_option maxHeartbeats 4000000 in
set_option maxRecDepth 100000 in
theorem d_at (t : ByteArray) (b i : Nat) (hi : i < t.size) (w : World) (hc : w.cell? ⟨b, 0, none⟩ = some (.string t)) :
  Calls Tryz.prog 145 #[.int .i64 (i : Int), .pointer (some ⟨b, 0, none⟩)] w fun e w' => e = .returned (.int .u8 (byt t i)) /\ w' = w := by
 have ix : ∀ W, (Instr.index 9 (.string t) (.int .i64 (i : Int))).run Tryz.prog W = .ok (.int .u8 (byt t i : Int)) W := fun W => by
  rw [run_index_string _ _ _ _ _ Tryz.underlying9, dif_pos (by omega)]
  unfold byt
  rw [kt t i hi]
  rfl
 generalize byt t i = y at *
 go_enter Tryz.func145, Tryz.ntmps145
 go_wp2_with fail
 go_ret
 exact ⟨rfl, rfl⟩
set_option maxHeartbeats 4000000 in
set_option maxRecDepth 100000 in
theorem d_lead (b : Nat) (hb : b < 256) (w : World) :
  Calls Tryz.prog 90 #[.int .u8 (b : Int)] w fun e w' => e = .returned (.tuple #[.int .i64 ((ze b).1 : Int), .int .u8 ((ze b).2.1 : Int), .int .u8 ((ze b).2.2 : Int)]) /\ w' = w := by
 have H : b < 128 \/ (128 <= b /\ b < 194) \/ (194 <= b /\ b < 224) \/ b = 224 \/ b = 237 \/ (225 <= b /\ b < 240 /\ b ≠ 237) \/ b = 240 \/ (241 <= b /\ b < 244) \/ b = 244 \/ 245 <= b := by omega
 rcases H with h | ⟨h1, h2⟩ | ⟨h1, h2⟩ | h | h | ⟨h1, h2, h3⟩ | h | ⟨h1, h2⟩ | h | h
 ·have L : ze b = (1, 0, 0) := by unfold ze; rw [if_pos h]
  rw [L]
  go_enter Tryz.func90, Tryz.ntmps90
  go_wp2_with fail
  exact bodyPost_ret (v := .tuple #[.int .i64 1, .int .u8 0, .int .u8 0]) (by simp [results, Tryz.results90, go_sem]) rfl ⟨rfl, rfl⟩
 ·have L : ze b = (0, 0, 0) := by unfold ze; rw [if_neg (by omega), if_pos h2]
  rw [L]
  go_enter Tryz.func90, Tryz.ntmps90
  go_wp2_with fail
  exact bodyPost_ret (v := .tuple #[.int .i64 0, .int .u8 0, .int .u8 0]) (by simp [results, Tryz.results90, go_sem]) rfl ⟨rfl, rfl⟩
 ·have L : ze b = (2, 128, 191) := by unfold ze; rw [if_neg (by omega), if_neg (by omega), if_pos h2]
  rw [L]
  have q224 : ((b : Int) == 224) = false := by simp; omega
  have q237 : ((b : Int) == 237) = false := by simp; omega
  have q240 : ((b : Int) == 240) = false := by simp; omega
  have q244 : ((b : Int) == 244) = false := by simp; omega
  go_enter Tryz.func90, Tryz.ntmps90
  go_wp2_with fail
  exact bodyPost_ret (v := .tuple #[.int .i64 2, .int .u8 128, .int .u8 191]) (by simp [results, Tryz.results90, go_sem]) rfl ⟨rfl, rfl⟩
 ·have L : ze b = (3, 160, 191) := by unfold ze; rw [if_neg (by omega), if_neg (by omega), if_neg (by omega), if_pos h]
  rw [L]
  subst h
  go_enter Tryz.func90, Tryz.ntmps90
  go_wp2_with fail
  exact bodyPost_ret (v := .tuple #[.int .i64 3, .int .u8 160, .int .u8 191]) (by simp [results, Tryz.results90, go_sem]) rfl ⟨rfl, rfl⟩
 ·have L : ze b = (3, 128, 159) := by unfold ze; rw [if_neg (by omega), if_neg (by omega), if_neg (by omega), if_neg (by omega), if_pos h]
  rw [L]
  subst h
  go_enter Tryz.func90, Tryz.ntmps90
  go_wp2_with fail
  exact bodyPost_ret (v := .tuple #[.int .i64 3, .int .u8 128, .int .u8 159]) (by simp [results, Tryz.results90, go_sem]) rfl ⟨rfl, rfl⟩
 ·have L : ze b = (3, 128, 191) := by unfold ze; rw [if_neg (by omega), if_neg (by omega), if_neg (by omega), if_neg (by omega), if_neg (by omega), if_pos h2]
  rw [L]
  have q1 : ((b : Int) == 237) = false := by simp; omega
  have q2 : ((b : Int) == 224) = false := by simp; omega
  go_enter Tryz.func90, Tryz.ntmps90
  go_wp2_with fail
  exact bodyPost_ret (v := .tuple #[.int .i64 3, .int .u8 128, .int .u8 191]) (by simp [results, Tryz.results90, go_sem]) rfl ⟨rfl, rfl⟩
 ·have L : ze b = (4, 144, 191) := by unfold ze; rw [if_neg (by omega), if_neg (by omega), if_neg (by omega), if_neg (by omega), if_neg (by omega), if_neg (by omega), if_pos h]
  rw [L]
  subst h
  go_enter Tryz.func90, Tryz.ntmps90
  go_wp2_with fail
  exact bodyPost_ret (v := .tuple #[.int .i64 4, .int .u8 144, .int .u8 191]) (by simp [results, Tryz.results90, go_sem]) rfl ⟨rfl, rfl⟩
 ·have L : ze b = (4, 128, 191) := by unfold ze; rw [if_neg (by omega), if_neg (by omega), if_neg (by omega), if_neg (by omega), if_neg (by omega), if_neg (by omega), if_neg (by omega), if_pos h2]
  rw [L]
  have q224 : ((b : Int) == 224) = false := by simp; omega
  have q237 : ((b : Int) == 237) = false := by simp; omega
  have q240 : ((b : Int) == 240) = false := by simp; omega
  have q244 : ((b : Int) == 244) = false := by simp; omega
  go_enter Tryz.func90, Tryz.ntmps90
  go_wp2_with fail
  exact bodyPost_ret (v := .tuple #[.int .i64 4, .int .u8 128, .int .u8 191]) (by simp [results, Tryz.results90, go_sem]) rfl ⟨rfl, rfl⟩
 ·have L : ze b = (4, 128, 143) := by unfold ze; rw [if_neg (by omega), if_neg (by omega), if_neg (by omega), if_neg (by omega), if_neg (by omega), if_neg (by omega), if_neg (by omega), if_neg (by omega), if_pos h]
  rw [L]
  subst h
  go_enter Tryz.func90, Tryz.ntmps90
  go_wp2_with fail
  exact bodyPost_ret (v := .tuple #[.int .i64 4, .int .u8 128, .int .u8 143]) (by simp [results, Tryz.results90, go_sem]) rfl ⟨rfl, rfl⟩
 ·have L : ze b = (0, 0, 0) := by unfold ze; rw [if_neg (by omega), if_neg (by omega), if_neg (by omega), if_neg (by omega), if_neg (by omega), if_neg (by omega), if_neg (by omega), if_neg (by omega), if_neg (by omega)]
  rw [L]
  have q224 : ((b : Int) == 224) = false := by simp; omega
  have q237 : ((b : Int) == 237) = false := by simp; omega
  have q240 : ((b : Int) == 240) = false := by simp; omega
  have q244 : ((b : Int) == 244) = false := by simp; omega
  go_enter Tryz.func90, Tryz.ntmps90
  go_wp2_with fail
  exact bodyPost_ret (v := .tuple #[.int .i64 0, .int .u8 0, .int .u8 0]) (by simp [results, Tryz.results90, go_sem]) rfl ⟨rfl, rfl⟩
theorem kH (y j : Nat) (hy : y < 256) (hj : j <= 8) : bits .and .i32 (y : Int) ((2 : Int) ^ j - 1) = ((y % 2 ^ j : Nat) : Int) := by
 have e : (2 : Int) ^ 31 = 2147483648 := by decide
 rw [bits_mask .i32 31 (by decide) wraps_i32 j (by omega) y (by omega) (by rw [e]; omega)]
 simp
theorem kI (c : Nat) (hc : c < 256) : bits .and .u8 (c : Int) 63 = ((c % 64 : Nat) : Int) := by
 rw [u8_and63 _ (by omega) (by omega)]
 simp
theorem kJ (r c : Nat) (hr : r < 2097152) : bits .or .i32 ((r * 64 : Nat) : Int) ((c % 64 : Nat) : Int) = ((r * 64 + c % 64 : Nat) : Int) := by
 rw [i32_or6 _ _ (by omega) (by omega) (by omega) (by omega) (by omega)]
 omega
set_option maxHeartbeats 8000000 in
set_option maxRecDepth 100000 in
theorem d_first (t : ByteArray) (ht : 0 < t.size) (hs : t.size <= 281474976710656) (b : Nat) (w : World) (hc : w.cell? ⟨b, 0, none⟩ = some (.string t)) :
  Calls Tryz.prog 74 #[.func (.func 145) #[] #[.pointer (some ⟨b, 0, none⟩)], .int .i64 (t.size : Int)] w fun e w' => (∃ u : Bool, e = .returned (.tuple #[.int .i32 ((decB t).1 : Int), .int .i64 ((decB t).2 : Int), .bool u])) /\ w' = w := by
 have DB : Hid (decB t = if (ze (byt t 0)).1 = 0 then (65533, 1) else if (ze (byt t 0)).1 = 1 then (byt t 0, 1)
  else goN t (ze (byt t 0)).1 ((ze (byt t 0)).1 - 1) (ze (byt t 0)).2.1 (ze (byt t 0)).2.2 (byt t 0 % 2 ^ (7 - (ze (byt t 0)).1)) 1) := zdy rfl
 have AT := zdy (fun i hi => d_at t b i hi w hc)
 have HS := zdy hs
 have A0 := zdy (AT.out 0 ht)
 have b0 := xe t 0
 have LD := zdy (d_lead (byt t 0) b0 w)
 have l4 := vO (byt t 0)
 generalize decB t = D at *
 have m31 : bits .and .i32 (byt t 0 : Int) 31 = ((byt t 0 % 32 : Nat) : Int) := kH _ 5 b0 (by decide)
 have m15 : bits .and .i32 (byt t 0 : Int) 15 = ((byt t 0 % 16 : Nat) : Int) := kH _ 4 b0 (by decide)
 have m7 : bits .and .i32 (byt t 0 : Int) 7 = ((byt t 0 % 8 : Nat) : Int) := kH _ 3 b0 (by decide)
 generalize byt t 0 = y0 at *
 generalize ze y0 = L at *
 obtain ⟨n, lo, hi⟩ := L
 obtain ⟨sz, hsz⟩ : ∃ sz, sz = t.size := ⟨_, rfl⟩
 have HZ := zdy hsz
 rw [<- hsz] at ht hs AT ⊢
 clear hsz hs hc
 simp only at l4 DB LD
 go_enter Tryz.func74, Tryz.ntmps74
 go_wp2_with fail
 refine A0.out.mono ?_; rintro e w' ⟨rfl, rfl⟩
 go_wp2_with fail
 refine LD.out.mono ?_; rintro e w' ⟨rfl, rfl⟩
 have N : n = 0 \/ n = 1 \/ n = 2 \/ n = 3 \/ n = 4 := by omega
 rcases N with rfl | rfl | rfl | rfl | rfl
 ·have R : Hid (D = (65533, 1)) := zdy (by rw [DB.out, if_pos rfl])
  go_wp2_with fail
  exact bodyPost_ret (v := .tuple #[.int .i32 65533, .int .i64 1, .bool false]) (by simp [results, Tryz.results74, go_sem]) rfl ⟨⟨false, by rw [R.out]; rfl⟩, rfl⟩
 ·have R : Hid (D = (y0, 1)) := zdy (by rw [DB.out, if_neg (by decide), if_pos rfl])
  go_wp2_with fail
  exact bodyPost_ret (v := .tuple #[.int .i32 y0, .int .i64 1, .bool false]) (by simp [results, Tryz.results74, go_sem]) rfl ⟨⟨false, by rw [R.out]; rfl⟩, rfl⟩
 ·have R : Hid (D = goN t 2 1 lo hi (y0 % 32) 1) := zdy (by rw [DB.out, if_neg (by decide), if_neg (by decide)])
  go_wp2_with fail
  go_loopw [9, 10, 11, 12, 13] (fun s9 s10 s11 s12 s13 wr => ∃ i lo' hi' r : Nat, 1 <= i /\ i <= 2 /\ i <= sz /\ s9 = .int .u8 (lo' : Int) /\ s10 = .int .u8 (hi' : Int) /\ s11 = .int .i32 (r : Int) /\ s12 = .int .i64 (i : Int) /\ wr = w' /\ Hid (r < 2 ^ (21 - 6 * (2 - i)) /\ goN t 2 (2 - i) lo' hi' r i = D)) (fun _ _ _ s12 _ _ => 2 - (intOf s12).toNat)
  case atStart => exact ⟨1, lo, hi, y0 % 32, by decide, by decide, by omega, rfl, rfl, by simp, rfl, rfl, zdy ⟨by have := Nat.mod_lt y0 (show 0 < 32 by decide); simp; omega, by rw [R.out]⟩⟩
  case round =>
   obtain ⟨i, lo', hi', r, h1, h2, h3, rfl, rfl, rfl, rfl, rfl, hG⟩ := hrel
   by_cases lt : i < 2
   ·have FU : 2 - i = (2 - (i + 1)) + 1 := by omega
    by_cases e : i = sz
    ·subst e
     have R2 : Hid (D = (65533, i)) := zdy (by rw [<- hG.out.2, FU]; exact xP _ _ _ _ _ _ _ HZ.out)
     clear FU
     go_wp2_with fail
     exact bodyPost_ret (v := .tuple #[.int .i32 65533, .int .i64 (i : Int), .bool true]) (by simp [results, Tryz.results74, go_sem]) rfl ⟨⟨true, by rw [R2.out]; rfl⟩, rfl⟩
    ·have lz : i < sz := by omega
     have ne : ((i : Int) == (sz : Int)) = false := by simp; omega
     have A1 := zdy (AT.out i lz)
     have cl := xe t i
     have nz : ¬ i = t.size := by rw [<- HZ.out]; exact e
     have BAD : Hid (byt t i < lo' \/ hi' < byt t i -> D = (65533, i)) := zdy fun hb => by rw [<- hG.out.2, FU]; exact xv _ _ _ _ _ _ _ nz hb
     have GOOD : Hid (¬ (byt t i < lo' \/ hi' < byt t i) -> goN t 2 (2 - (i + 1)) 128 191 (r * 64 + byt t i % 64) (i + 1) = D) := zdy fun hb => by rw [<- hG.out.2, FU]; exact (qW _ _ _ _ _ _ _ nz hb).symm
     clear FU nz
     generalize byt t i = c at *
     by_cases c1 : c < lo'
     ·have R2 : Hid (D = (65533, i)) := zdy (BAD.out (Or.inl c1))
      go_wp2_with fail
      refine A1.out.mono ?_; rintro e' w' ⟨rfl, rfl⟩
      go_wp2_with fail
      exact bodyPost_ret (v := .tuple #[.int .i32 65533, .int .i64 (i : Int), .bool false]) (by simp [results, Tryz.results74, go_sem]) rfl ⟨⟨false, by rw [R2.out]; rfl⟩, rfl⟩
     ·by_cases c2 : hi' < c
      ·have R2 : Hid (D = (65533, i)) := zdy (BAD.out (Or.inr c2))
       go_wp2_with fail
       refine A1.out.mono ?_; rintro e' w' ⟨rfl, rfl⟩
       go_wp2_with fail
       exact bodyPost_ret (v := .tuple #[.int .i32 65533, .int .i64 (i : Int), .bool false]) (by simp [results, Tryz.results74, go_sem]) rfl ⟨⟨false, by rw [R2.out]; rfl⟩, rfl⟩
      ·have GO := zdy (GOOD.out (fun h => h.elim c1 c2))
       have rb : r < 32768 := by
        have := hG.out.1
        have q : 2 - i = 1 \/ 2 - i = 2 \/ 2 - i = 3 := by omega
        rcases q with q | q | q <;> rw [q] at this <;> simp at this <;> omega
       have rb2 : Hid (r * 64 + c % 64 < 2 ^ (21 - 6 * (2 - (i + 1)))) := zdy (by
        have := hG.out.1
        have q : 2 - i = 1 \/ 2 - i = 2 \/ 2 - i = 3 := by omega
        rcases q with q | q | q <;> rw [q] at this <;> (rw [show 2 - (i + 1) = 2 - i - 1 by omega, q]) <;> simp at this ⊢ <;> omega)
       have f1 := kI c cl
       have f2 := kJ r c (by omega)
       have f3 : IntKind.i32.wrap ((r : Int) * 64) = ((r * 64 : Nat) : Int) := by rw [IntKind.wrap_i32]; omega
       clear BAD GOOD hG
       go_wp2_with fail
       refine A1.out.mono ?_; rintro e' w' ⟨rfl, rfl⟩
       go_wp2_with fail
       go_roundw
       case rel => exact ⟨i + 1, 128, 191, r * 64 + c % 64, by omega, by omega, by omega, rfl, rfl, by go_num, by go_num, trivial, zdy ⟨rb2.out, GO.out⟩⟩
       case measure => simp [intOf]; omega
   ·have ei : i = 2 := by omega
    subst ei
    have R2 : Hid (D = (r, 2)) := zdy (by rw [<- hG.out.2, Nat.sub_self]; rfl)
    go_wp2_with fail
    exact bodyPost_ret (v := .tuple #[.int .i32 (r : Int), .int .i64 2, .bool false]) (by simp [results, Tryz.results74, go_sem]) rfl ⟨⟨false, by rw [R2.out]; rfl⟩, rfl⟩
 ·have R : Hid (D = goN t 3 2 lo hi (y0 % 16) 1) := zdy (by rw [DB.out, if_neg (by decide), if_neg (by decide)])
  go_wp2_with fail
  go_loopw [9, 10, 11, 12, 13] (fun s9 s10 s11 s12 s13 wr => ∃ i lo' hi' r : Nat, 1 <= i /\ i <= 3 /\ i <= sz /\ s9 = .int .u8 (lo' : Int) /\ s10 = .int .u8 (hi' : Int) /\ s11 = .int .i32 (r : Int) /\ s12 = .int .i64 (i : Int) /\ wr = w' /\ Hid (r < 2 ^ (21 - 6 * (3 - i)) /\ goN t 3 (3 - i) lo' hi' r i = D)) (fun _ _ _ s12 _ _ => 3 - (intOf s12).toNat)
  case atStart => exact ⟨1, lo, hi, y0 % 16, by decide, by decide, by omega, rfl, rfl, by simp, rfl, rfl, zdy ⟨by have := Nat.mod_lt y0 (show 0 < 16 by decide); simp; omega, by rw [R.out]⟩⟩
  case round =>
   obtain ⟨i, lo', hi', r, h1, h2, h3, rfl, rfl, rfl, rfl, rfl, hG⟩ := hrel
   by_cases lt : i < 3
   ·have FU : 3 - i = (3 - (i + 1)) + 1 := by omega
    by_cases e : i = sz
    ·subst e
     have R2 : Hid (D = (65533, i)) := zdy (by rw [<- hG.out.2, FU]; exact xP _ _ _ _ _ _ _ HZ.out)
     clear FU
     go_wp2_with fail
     exact bodyPost_ret (v := .tuple #[.int .i32 65533, .int .i64 (i : Int), .bool true]) (by simp [results, Tryz.results74, go_sem]) rfl ⟨⟨true, by rw [R2.out]; rfl⟩, rfl⟩
    ·have lz : i < sz := by omega
     have ne : ((i : Int) == (sz : Int)) = false := by simp; omega
     have A1 := zdy (AT.out i lz)
     have cl := xe t i
     have nz : ¬ i = t.size := by rw [<- HZ.out]; exact e
     have BAD : Hid (byt t i < lo' \/ hi' < byt t i -> D = (65533, i)) := zdy fun hb => by rw [<- hG.out.2, FU]; exact xv _ _ _ _ _ _ _ nz hb
     have GOOD : Hid (¬ (byt t i < lo' \/ hi' < byt t i) -> goN t 3 (3 - (i + 1)) 128 191 (r * 64 + byt t i % 64) (i + 1) = D) := zdy fun hb => by rw [<- hG.out.2, FU]; exact (qW _ _ _ _ _ _ _ nz hb).symm
     clear FU nz
     generalize byt t i = c at *
     by_cases c1 : c < lo'
     ·have R2 : Hid (D = (65533, i)) := zdy (BAD.out (Or.inl c1))
      go_wp2_with fail
      refine A1.out.mono ?_; rintro e' w' ⟨rfl, rfl⟩
      go_wp2_with fail
      exact bodyPost_ret (v := .tuple #[.int .i32 65533, .int .i64 (i : Int), .bool false]) (by simp [results, Tryz.results74, go_sem]) rfl ⟨⟨false, by rw [R2.out]; rfl⟩, rfl⟩
     ·by_cases c2 : hi' < c
      ·have R2 : Hid (D = (65533, i)) := zdy (BAD.out (Or.inr c2))
       go_wp2_with fail
       refine A1.out.mono ?_; rintro e' w' ⟨rfl, rfl⟩
       go_wp2_with fail
       exact bodyPost_ret (v := .tuple #[.int .i32 65533, .int .i64 (i : Int), .bool false]) (by simp [results, Tryz.results74, go_sem]) rfl ⟨⟨false, by rw [R2.out]; rfl⟩, rfl⟩
      ·have GO := zdy (GOOD.out (fun h => h.elim c1 c2))
       have rb : r < 32768 := by
        have := hG.out.1
        have q : 3 - i = 1 \/ 3 - i = 2 \/ 3 - i = 3 := by omega
        rcases q with q | q | q <;> rw [q] at this <;> simp at this <;> omega
       have rb2 : Hid (r * 64 + c % 64 < 2 ^ (21 - 6 * (3 - (i + 1)))) := zdy (by
        have := hG.out.1
        have q : 3 - i = 1 \/ 3 - i = 2 \/ 3 - i = 3 := by omega
        rcases q with q | q | q <;> rw [q] at this <;> (rw [show 3 - (i + 1) = 3 - i - 1 by omega, q]) <;> simp at this ⊢ <;> omega)
       have f1 := kI c cl
       have f2 := kJ r c (by omega)
       have f3 : IntKind.i32.wrap ((r : Int) * 64) = ((r * 64 : Nat) : Int) := by rw [IntKind.wrap_i32]; omega
       clear BAD GOOD hG
       go_wp2_with fail
       refine A1.out.mono ?_; rintro e' w' ⟨rfl, rfl⟩
       go_wp2_with fail
       go_roundw
       case rel => exact ⟨i + 1, 128, 191, r * 64 + c % 64, by omega, by omega, by omega, rfl, rfl, by go_num, by go_num, trivial, zdy ⟨rb2.out, GO.out⟩⟩
       case measure => simp [intOf]; omega
   ·have ei : i = 3 := by omega
    subst ei
    have R2 : Hid (D = (r, 3)) := zdy (by rw [<- hG.out.2, Nat.sub_self]; rfl)
    go_wp2_with fail
    exact bodyPost_ret (v := .tuple #[.int .i32 (r : Int), .int .i64 3, .bool false]) (by simp [results, Tryz.results74, go_sem]) rfl ⟨⟨false, by rw [R2.out]; rfl⟩, rfl⟩
 ·have R : Hid (D = goN t 4 3 lo hi (y0 % 8) 1) := zdy (by rw [DB.out, if_neg (by decide), if_neg (by decide)])
  go_wp2_with fail
  go_loopw [9, 10, 11, 12, 13] (fun s9 s10 s11 s12 s13 wr => ∃ i lo' hi' r : Nat, 1 <= i /\ i <= 4 /\ i <= sz /\ s9 = .int .u8 (lo' : Int) /\ s10 = .int .u8 (hi' : Int) /\ s11 = .int .i32 (r : Int) /\ s12 = .int .i64 (i : Int) /\ wr = w' /\ Hid (r < 2 ^ (21 - 6 * (4 - i)) /\ goN t 4 (4 - i) lo' hi' r i = D)) (fun _ _ _ s12 _ _ => 4 - (intOf s12).toNat)
  case atStart => exact ⟨1, lo, hi, y0 % 8, by decide, by decide, by omega, rfl, rfl, by simp, rfl, rfl, zdy ⟨by have := Nat.mod_lt y0 (show 0 < 8 by decide); simp; omega, by rw [R.out]⟩⟩
  case round =>
   obtain ⟨i, lo', hi', r, h1, h2, h3, rfl, rfl, rfl, rfl, rfl, hG⟩ := hrel
   by_cases lt : i < 4
   ·have FU : 4 - i = (4 - (i + 1)) + 1 := by omega
    by_cases e : i = sz
    ·subst e
     have R2 : Hid (D = (65533, i)) := zdy (by rw [<- hG.out.2, FU]; exact xP _ _ _ _ _ _ _ HZ.out)
     clear FU
     go_wp2_with fail
     exact bodyPost_ret (v := .tuple #[.int .i32 65533, .int .i64 (i : Int), .bool true]) (by simp [results, Tryz.results74, go_sem]) rfl ⟨⟨true, by rw [R2.out]; rfl⟩, rfl⟩
    ·have lz : i < sz := by omega
     have ne : ((i : Int) == (sz : Int)) = false := by simp; omega
     have A1 := zdy (AT.out i lz)
     have cl := xe t i
     have nz : ¬ i = t.size := by rw [<- HZ.out]; exact e
     have BAD : Hid (byt t i < lo' \/ hi' < byt t i -> D = (65533, i)) := zdy fun hb => by rw [<- hG.out.2, FU]; exact xv _ _ _ _ _ _ _ nz hb
     have GOOD : Hid (¬ (byt t i < lo' \/ hi' < byt t i) -> goN t 4 (4 - (i + 1)) 128 191 (r * 64 + byt t i % 64) (i + 1) = D) := zdy fun hb => by rw [<- hG.out.2, FU]; exact (qW _ _ _ _ _ _ _ nz hb).symm
     clear FU nz
     generalize byt t i = c at *
     by_cases c1 : c < lo'
     ·have R2 : Hid (D = (65533, i)) := zdy (BAD.out (Or.inl c1))
      go_wp2_with fail
      refine A1.out.mono ?_; rintro e' w' ⟨rfl, rfl⟩
      go_wp2_with fail
      exact bodyPost_ret (v := .tuple #[.int .i32 65533, .int .i64 (i : Int), .bool false]) (by simp [results, Tryz.results74, go_sem]) rfl ⟨⟨false, by rw [R2.out]; rfl⟩, rfl⟩
     ·by_cases c2 : hi' < c
      ·have R2 : Hid (D = (65533, i)) := zdy (BAD.out (Or.inr c2))
       go_wp2_with fail
       refine A1.out.mono ?_; rintro e' w' ⟨rfl, rfl⟩
       go_wp2_with fail
       exact bodyPost_ret (v := .tuple #[.int .i32 65533, .int .i64 (i : Int), .bool false]) (by simp [results, Tryz.results74, go_sem]) rfl ⟨⟨false, by rw [R2.out]; rfl⟩, rfl⟩
      ·have GO := zdy (GOOD.out (fun h => h.elim c1 c2))
       have rb : r < 32768 := by
        have := hG.out.1
        have q : 4 - i = 1 \/ 4 - i = 2 \/ 4 - i = 3 := by omega
        rcases q with q | q | q <;> rw [q] at this <;> simp at this <;> omega
       have rb2 : Hid (r * 64 + c % 64 < 2 ^ (21 - 6 * (4 - (i + 1)))) := zdy (by
        have := hG.out.1
        have q : 4 - i = 1 \/ 4 - i = 2 \/ 4 - i = 3 := by omega
        rcases q with q | q | q <;> rw [q] at this <;> (rw [show 4 - (i + 1) = 4 - i - 1 by omega, q]) <;> simp at this ⊢ <;> omega)
       have f1 := kI c cl
       have f2 := kJ r c (by omega)
       have f3 : IntKind.i32.wrap ((r : Int) * 64) = ((r * 64 : Nat) : Int) := by rw [IntKind.wrap_i32]; omega
       clear BAD GOOD hG
       go_wp2_with fail
       refine A1.out.mono ?_; rintro e' w' ⟨rfl, rfl⟩
       go_wp2_with fail
       go_roundw
       case rel => exact ⟨i + 1, 128, 191, r * 64 + c % 64, by omega, by omega, by omega, rfl, rfl, by go_num, by go_num, trivial, zdy ⟨rb2.out, GO.out⟩⟩
       case measure => simp [intOf]; omega
   ·have ei : i = 4 := by omega
    subst ei
    have R2 : Hid (D = (r, 4)) := zdy (by rw [<- hG.out.2, Nat.sub_self]; rfl)
    go_wp2_with fail
    exact bodyPost_ret (v := .tuple #[.int .i32 (r : Int), .int .i64 4, .bool false]) (by simp [results, Tryz.results74, go_sem]) rfl ⟨⟨false, by rw [R2.out]; rfl⟩, rfl⟩
set_option maxHeartbeats 4000000 in
set_option maxRecDepth 100000 in
theorem d_Decode (t : ByteArray) (ht : 0 < t.size) (hs : t.size <= 281474976710656) (w : World) :
  Calls Tryz.prog 136 #[.string t] w fun e w' => e = .returned (.tuple #[.int .i32 ((decB t).1 : Int), .int .i64 ((decB t).2 : Int)]) /\ Below w.heap.size w w' := by
 have hmf : ∀ (fn : Fn) (first cap : Array Value) (w : World), (Instr.makeFunc fn first cap).run Tryz.prog w = .ok (.func fn first cap) w := fun _ _ _ _ => rfl
 have b1 : (t.toList == []) = false := by
  rw [ZP]
  refine decide_eq_false fun e => ?_
  rw [e] at ht
  exact absurd ht (by decide)
 have FI := zdy (d_first t ht hs w.heap.size (w.alloc (.cells #[.string t] 9)) (by simp [go_sem]))
 generalize decB t = D at *
 go_enter Tryz.func136, Tryz.ntmps136
 go_wp2_with fail
 refine FI.out.mono ?_; rintro e w' ⟨⟨u, rfl⟩, rfl⟩
 go_wp2_with fail
 exact bodyPost_ret (v := .tuple #[.int .i32 (D.1 : Int), .int .i64 (D.2 : Int)]) (by simp [results, Tryz.results136, go_sem]) rfl ⟨rfl, by go_grown⟩
end
section
open Go.RowKit Go.Sort
def rns (l : List Int) : List Value := l.map (Value.int .i32)
theorem XG (a b : List Int) : rns (a ++ b) = rns a ++ rns b := by simp [rns]
theorem XH (l : List Int) : ∀ u ∈ rns l, u.oneCell' = true := fun u hu => by
 obtain ⟨y, _, rfl⟩ := List.mem_map.1 hu
 rfl
theorem infoR : (Tryz.prog.info? 21).map (fun i => (i.zero, i.size, i.bytes)) = some (some (.int .i32 0), 1, 4) := by kernel_rfl
theorem qT (w : World) (xs : List Value) (T : TypeId) : ∀ j u, xs[j]? = some u -> (w.alloc (.cells xs.toArray T)).cell? ((⟨w.heap.size, 0, none⟩ : Addr).add j) = some u := fun j u h => by
 rw [show (⟨w.heap.size, 0, none⟩ : Addr).add j = ⟨w.heap.size, j, none⟩ by simp [Addr.add]; intro h; exact h.symm]
 exact (Qv w xs T j u h).1
theorem ext_ext (s : ByteArray) (a d : Nat) (h : a <= s.size) : (s.extract a s.size).extract d (s.extract a s.size).size = s.extract (a + d) s.size := by
 have z : (s.extract a s.size).size = s.size - a := by rw [ByteArray.size_extract]; omega
 rw [z, ByteArray.extract_extract, show min (a + (s.size - a)) s.size = s.size by omega]
theorem zbT (s : ByteArray) (k : Nat) (acc : List Int) (hk : k < s.size) (h : acc ++ zH (s.extract k s.size) = zH s) :
  acc ++ [((decB (s.extract k s.size)).1 : Int)] ++ zH (s.extract (k + (decB (s.extract k s.size)).2) s.size) = zH s := by
 have z : (s.extract k s.size).size = s.size - k := by rw [ByteArray.size_extract]; omega
 rw [vP _ (by omega), ext_ext s k _ (by omega)] at h
 rw [<- h, List.append_assoc, List.singleton_append]
set_option maxHeartbeats 8000000 in
set_option maxRecDepth 100000 in
theorem XI (s : ByteArray) (hs : s.size <= 35184372000000) (w : World) : Calls Tryz.prog 102 #[.string s] w fun e w' => ∃ v, e = .returned v /\ w'.ownsRow w.heap.size 21 1 v (zH s).length (rns (zH s)) /\ Below w.heap.size w w' := by
 obtain ⟨n, hn⟩ : ∃ n, n = s.size := ⟨_, rfl⟩
 have HN := zdy hn
 have XL := zdy (kW _ s rfl)
 have XS := zdy (zbT s)
 have XD := zdy (fun k (hk : k < s.size) => d_Decode (s.extract k s.size) (by rw [ByteArray.size_extract]; omega) (by rw [ByteArray.size_extract]; omega))
 have XB := zdy (fun k (hk : k < s.size) => xf (s.extract k s.size) (by rw [ByteArray.size_extract]; omega))
 have XZ : Hid (∀ k, k < s.size -> (s.extract k s.size).size = s.size - k) := zdy (fun k hk => by rw [ByteArray.size_extract]; omega)
 have XE : Hid (∀ acc, acc ++ zH (s.extract s.size s.size) = zH s -> acc = zH s) := zdy (fun acc h => by rw [ZK _ (by rw [ByteArray.size_extract]; omega), List.append_nil] at h; exact h)
 rw [<- hn] at hs XL XS XD XB XZ XE
 clear hn
 obtain ⟨i0, hi0, hz0, hz1, hz2⟩ := info_parts infoR
 obtain ⟨LO, hLO⟩ : ∃ LO, LO = w.heap.size := ⟨_, rfl⟩
 have HLO := zdy hLO
 have STEP : Hid (∀ (wr : World) (v : Value) (ws L : List Int), wr.ownsRow LO 21 1 v ws.length (rns ws) -> Below LO w wr -> ∀ (v' : Value) (w3 : World), w3.ownsRow LO 21 1 v' (ws.length + L.length) (rns ws ++ rns L) -> (wr.alloc (.cells (rns L).toArray 21)).grownBy w3 v.ownBlock -> w3.ownsRow LO 21 1 v' (ws ++ L).length (rns (ws ++ L)) /\ Below LO w w3) := zdy (fun wr v ws L ho hb v' w3 h1 h2 =>
  ⟨by rw [List.length_append, XG]; exact h1, (hb.alloc (by rw [hLO]; exact hb.size) _).grown h2 (by have := hb.size; simp; omega) (fun g hg => (ho.lt g hg).1)⟩)
 have O0 : Hid (w.ownsRow LO 21 1 (.slice none 0 0) 0 (rns []) /\ Below LO w w) := zdy ⟨World.ownsRow_nil _ _ _ _, Below.refl _ _⟩
 rw [<- hLO]
 clear hLO
 have hsz : (s.size : Int) = (n : Int) := by rw [HN.out]
 go_enter Tryz.func102, Tryz.ntmps102
 go_wp2_with fail
 go_loopw [3, 4, 5, 6] (fun s3 s4 s5 s6 wr => ∃ (k : Nat) (acc : List Int), k <= n /\ s4 = .int .i64 k /\ Hid (acc ++ zH (s.extract k n) = zH s) /\ Hid (wr.ownsRow LO 21 1 s3 acc.length (rns acc) /\ Below LO w wr)) (fun _ s4 _ _ _ => n - (intOf s4).toNat)
 case atStart => exact ⟨0, [], by omega, rfl, zdy (by rw [HN.out]; simp), O0⟩
 case round =>
  obtain ⟨k, acc, hk, rfl, hx, ho⟩ := hrel
  by_cases lt : k < n
  ·have slr : ∀ W, (Instr.slice 9 (.string s) (some (.int .i64 (k : Int))) none none).run Tryz.prog W = .ok (.string (s.extract k n)) W := fun W => by
    rw [run_slice_string_from_if _ _ _ _ _ Tryz.underlying9, if_pos (by omega)]
    rw [HN.out]
    rfl
   have NX := zdy (XS.out k acc lt hx.out)
   have DD := zdy (XD.out k lt)
   have bb := XB.out k lt
   have zz := XZ.out k lt
   have LL : acc.length + 1 <= n := by
    have h1 := congrArg List.length NX.out
    simp at h1
    have := XL.out
    omega
   clear hx
   generalize s.extract k n = x at *
   rw [zz] at bb
   obtain ⟨⟨r, d⟩, hD⟩ : ∃ D, D = decB x := ⟨_, rfl⟩
   rw [<- hD] at DD bb NX
   simp only at DD bb NX
   clear hD zz
   go_wp2_with fail
   refine (DD.out _).mono ?_; rintro e w1 ⟨rfl, hb1⟩
   have HO := zdy ((Qw ho.out.1 hb1).alloc (.cells (rns [(r : Int)]).toArray 21))
   have HO1 := zdy (Qw ho.out.1 hb1)
   have HB := zdy (ho.out.2.trans (hb1.mono (by rw [HLO.out]; exact ho.out.2.size)))
   have H2 : acc.length + 1 <= maxLen := by unfold maxLen; omega
   have H3 : (acc.length + 1) * 4 <= 140737488355328 := by omega
   have H4 : LO <= (w1.alloc (.cells (rns [(r : Int)]).toArray 21)).heap.size := by have := HB.out.size; rw [HLO.out]; simp; omega
   have NW := zdy (qT w1 (rns [(r : Int)]) 21)
   have O1 := zdy (XH [(r : Int)])
   have ST := zdy (fun v' w3 a b => STEP.out w1 _ acc [(r : Int)] HO1.out HB.out v' w3 a b)
   clear ho hb1
   go_wp2_with (at_builtin; refine wpList_append_own _ rfl (.tmp 18) (.tmp 20) 111 rfl LO 21 i0 (.int .i32 0) 1 4 Tryz.underlying111 hi0 hz0 hz1 hz2 rfl (by decide) _ _ _ rfl HO.out ⟨w1.heap.size, 0, none⟩ 1 1 (rns [(r : Int)]) rfl rfl NW.out O1.out H2 H3 H4 ?_; intro v' w3 hown3 hg3 _)
   have SS := zdy (ST.out v' w3 hown3 hg3)
   clear hown3 hg3
   go_wp2_with fail
   go_roundw
   case rel => exact ⟨k + d, _, by omega, by go_num, NX, SS⟩
   case measure => (simp [intOf] <;> omega)
  ·have ek : k = n := by omega
   subst ek
   have FE : Hid (acc = zH s) := zdy (XE.out acc hx.out)
   rw [FE.out] at ho
   clear hx
   go_wp2_with fail
   go_ret
   exact ⟨_, rfl, ho.out.1, ho.out.2⟩
end
section
open Go.RowKit Go.Sort
def bts (l : List Int) : List Value := l.map (Value.int .u8)
theorem xG (a b : List Int) : bts (a ++ b) = bts a ++ bts b := by simp [bts]
theorem Zd (l : List Int) : ∀ u ∈ bts l, u.oneCell' = true := fun u hu => by
 obtain ⟨y, _, rfl⟩ := List.mem_map.1 hu
 rfl
theorem j8 : (Tryz.prog.info? 5).map (fun i => (i.zero, i.size, i.bytes)) = some (some (.int .u8 0), 1, 1) := by kernel_rfl
theorem or_u8 (y k : Nat) (h : (k = 192 /\ y < 32) \/ (k = 224 /\ y < 16) \/ (k = 240 /\ y < 8)) : bits .or .u8 (y : Int) (k : Int) = ((k + y : Nat) : Int) := by
 rw [(bits_nat .u8 8 (by decide) wraps_u8 y k (by omega) (by omega)).2, Nat.or_comm]
 congr 1
 rcases h with ⟨rfl, h⟩ | ⟨rfl, h⟩ | ⟨rfl, h⟩
 ·exact (Nat.two_pow_add_eq_or_of_lt (i := 5) h 6).symm
 ·exact (Nat.two_pow_add_eq_or_of_lt (i := 4) h 14).symm
 ·exact (Nat.two_pow_add_eq_or_of_lt (i := 3) h 30).symm
theorem Qx (c : Int) (h0 : 0 <= c) (h1 : c < 2147483648) : bits .and .i32 c 63 = c % 64 :=
  bits_mask .i32 31 (by decide) wraps_i32 6 (by decide) c h0 (by have e : (2 : Int) ^ 31 = 2147483648 := by decide
                                                                 rw [e]; exact h1)
def PutRet (LO : Nat) (w : World) (ys : List Int) (e : Ending) (w' : World) : Prop := ∃ v', e = .returned v' /\ w'.ownsRow LO 5 1 v' ys.length (bts ys) /\ Below LO w w'
set_option maxHeartbeats 8000000 in
set_option maxRecDepth 100000 in
theorem d_put (LO : Nat) (v : Value) (xs : List Int) (r : Int) (hr0 : -2147483648 <= r) (hr1 : r < 2147483648) (w : World) (hlo : LO <= w.heap.size) (hm : xs.length <= 140737488355000) (h : w.ownsRow LO 5 1 v xs.length (bts xs)) :
    Calls Tryz.prog 135 #[v, .int .i32 r] w (PutRet LO w (xs ++ qm r)) := by
  obtain ⟨i0, hi0, hz0, hz1, hz2⟩ := info_parts j8
  have O1 := zdy (fun (W : World) (l : List Int) (o : Obj) (hb : Below LO w W) => show ∀ (v' : Value) (w3 : World), w3.ownsRow LO 5 1 v' (xs.length + l.length) (bts xs ++ bts l) -> (W.alloc o).grownBy w3 v.ownBlock -> PutRet LO w (xs ++ l) (.returned v') w3 from
    fun v' w3 a b => ⟨v', rfl, by rw [List.length_append, xG]; exact a, (hb.alloc (Nat.le_trans hlo hb.size) o).grown b (by have := hb.size; simp; omega) (fun g hg => (h.lt g hg).1)⟩)
  have NL := zdy (fun (l : List Int) => qT w (bts l) 5)
  have HX := zdy (fun (o : Obj) => h.alloc o)
  obtain ⟨n, hn⟩ : ∃ n, n = xs.length := ⟨_, rfl⟩
  have H2 : Hid (∀ k, k <= 4 -> xs.length + k <= maxLen /\ (xs.length + k) * 1 <= 140737488355328) := zdy (fun k hk => by unfold maxLen; omega)
  have H4 : Hid (∀ o : Obj, LO <= (w.alloc o).heap.size) := zdy (fun o => by simp; omega)
  have H1 := zdy (fun (l : List Int) => Zd l)
  have BI : Hid (qm r = if zx r < 128 then [zx r] else if zx r < 2048 then [192 + zx r / 64, 128 + zx r % 64] else if zx r < 65536 then [224 + zx r / 4096, 128 + zx r / 64 % 64, 128 + zx r % 64]
    else [240 + zx r / 262144, 128 + zx r / 4096 % 64, 128 + zx r / 64 % 64, 128 + zx r % 64]) := zdy rfl
  have hcr := vQ r
  have CI : Hid (zx r = if 0 <= r /\ r <= 1114111 /\ (r < 55296 \/ 57343 < r) then r else 65533) := zdy rfl
  generalize qm r = B at *
  generalize zx r = c at *
  clear h hn hm hlo
  go_enter Tryz.func135, Tryz.ntmps135
  go_upto_region 1 with fail
  obtain ⟨β, hβ⟩ : ∃ β : Bool, β = !decide (0 <= r /\ r <= 1114111 /\ (r < 55296 \/ 57343 < r)) := ⟨_, rfl⟩
  have HB := zdy hβ
  clear hβ
  go_cut [20] from 7 to 20 (fun s20 wx => s20 = .bool β /\ wx = w)
  case first =>
    by_cases c1 : r < 0
    · have E : Hid (β = true) := zdy (by rw [HB.out, decide_eq_false (by omega)]; rfl)
      go_wp2_with fail
      go_meet
      exact ⟨by rw [E.out], rfl⟩
    · by_cases c2 : r < 55296
      · have E : Hid (β = false) := zdy (by rw [HB.out, decide_eq_true (by omega)]; rfl)
        go_wp2_with fail
        go_meet
        exact ⟨by rw [E.out, decide_eq_false (by omega)], rfl⟩
      · by_cases c3 : r <= 57343
        · have E : Hid (β = true) := zdy (by rw [HB.out, decide_eq_false (by omega)]; rfl)
          go_wp2_with fail
          go_meet
          exact ⟨by rw [E.out], rfl⟩
        · by_cases c4 : 1114111 < r
          · have E : Hid (β = true) := zdy (by rw [HB.out, decide_eq_false (by omega)]; rfl)
            go_wp2_with fail
            go_meet
            exact ⟨by rw [E.out], rfl⟩
          · have E : Hid (β = false) := zdy (by rw [HB.out, decide_eq_true (by omega)]; rfl)
            go_wp2_with fail
            go_meet
            exact ⟨by rw [E.out], rfl⟩
  case rest =>
   obtain ⟨rfl, rfl⟩ := hcut
   obtain ⟨W, hW⟩ : ∃ W, W = wc := ⟨_, rfl⟩
   subst hW
   go_upto_if 20 with fail
   go_cut [1] from 20 to 20 (fun s1 wx => s1 = .int .i32 c /\ wx = W)
   case first =>
    cases hb : β with
    | true =>
      have E : Hid (c = 65533) := zdy (by
        have h := HB.out
        rw [hb] at h
        rw [CI.out, if_neg (fun z => by rw [decide_eq_true z] at h; cases h)])
      clear hb HB
      go_wp2_with fail
      go_meet
      exact ⟨by rw [E.out], rfl⟩
    | false =>
      have E : Hid (c = r) := zdy (by
        have h := HB.out
        rw [hb] at h
        rw [CI.out, if_pos (Decidable.byContradiction fun z => by rw [decide_eq_false z] at h; cases h)])
      clear hb HB
      go_wp2_with fail
      go_meet
      exact ⟨by rw [E.out], rfl⟩
   case rest =>
    obtain ⟨rfl, rfl⟩ := hcut
    clear HB
    obtain ⟨h0, h1⟩ := hcr
    clear CI hr0 hr1
    have a0 := Qx c h0 (by omega)
    have a1 := Qx (c / 64) (by omega) (by omega)
    have a2 := Qx (c / 64 / 64) (by omega) (by omega)
    have o0 := Go.u8_or128 (c % 64) (by omega) (by omega)
    have o1 := Go.u8_or128 (c / 64 % 64) (by omega) (by omega)
    have o2 := Go.u8_or128 (c / 64 / 64 % 64) (by omega) (by omega)
    have x63 : bits .xor .u8 IntKind.u8.max 63 = 192 := by decide
    have x31 : bits .xor .u8 IntKind.u8.max 31 = 224 := by decide
    have x15 : bits .xor .u8 IntKind.u8.max 15 = 240 := by decide
    have sgn : ¬ IntKind.u8.signed = true := by decide
    by_cases t1 : c < 128
    · have E : Hid (B = [c]) := zdy (by rw [BI.out, if_pos t1])
      go_wp2_with (at_builtin; refine wpList_append_own _ rfl (.tmp 23) (.tmp 26) 27 rfl LO 5 i0 (.int .u8 0) 1 1 Tryz.underlying27 hi0 hz0 hz1 hz2 rfl (by decide) _ _ _ rfl (HX.out _) ⟨wc.heap.size, 0, none⟩ 1 1 (bts [c]) rfl rfl (NL.out [c]) (H1.out _) (H2.out 1 (by decide)).1 (H2.out 1 (by decide)).2 (H4.out _) ?_; intro v' w3 hown3 hg3 _)
      have R := zdy (O1.out wc [c] _ (Below.refl _ _) v' w3 hown3 hg3)
      clear hown3 hg3
      go_wp2_with fail
      go_ret
      rw [E.out]
      exact R.out
    by_cases t2 : c < 2048
    · have E : Hid (B = [192 + c / 64, 128 + c % 64]) := zdy (by rw [BI.out, if_neg t1, if_pos t2])
      have ql : bits .or .u8 (c / 64) 192 = 192 + c / 64 := by have := or_u8 (c / 64).toNat 192 (by omega); rw [show (((c / 64).toNat : Nat) : Int) = c / 64 by omega] at this; simpa using (this.trans (by omega))
      have NC : Hid (∀ j u, (bts [192 + c / 64, 128 + c % 64])[j]? = some u -> (wc.alloc (.cells #[.int .u8 (192 + c / 64), .int .u8 (128 + c % 64), .int .u8 0, .int .u8 0] 114)).cell? ((⟨wc.heap.size, 0, none⟩ : Addr).add j) = some u) := zdy (fun j u hj => qT wc [.int .u8 (192 + c / 64), .int .u8 (128 + c % 64), .int .u8 0, .int .u8 0] 114 j u (by
        have : j < 2 := (List.getElem?_eq_some_iff.1 hj).1
        have q : j = 0 \/ j = 1 := by omega
        rcases q with rfl | rfl <;> exact hj))
      go_wp2_with (at_builtin; refine wpList_append_own _ rfl (.tmp 67) (.tmp 69) 27 rfl LO 5 i0 (.int .u8 0) 1 1 Tryz.underlying27 hi0 hz0 hz1 hz2 rfl (by decide) _ _ _ rfl (HX.out _) ⟨wc.heap.size, 0, none⟩ 2 4 (bts [192 + c / 64, 128 + c % 64]) rfl rfl NC.out (H1.out _) (H2.out 2 (by decide)).1 (H2.out 2 (by decide)).2 (H4.out _) ?_; intro v' w3 hown3 hg3 _)
      have R := zdy (O1.out wc [192 + c / 64, 128 + c % 64] _ (Below.refl _ _) v' w3 hown3 hg3)
      clear hown3 hg3
      go_wp2_with fail
      go_ret
      rw [E.out]
      exact R.out
    by_cases t3 : c < 65536
    · have E : Hid (B = [224 + c / 64 / 64, 128 + c / 64 % 64, 128 + c % 64]) := zdy (by rw [BI.out, if_neg t1, if_neg t2, if_pos t3, show c / 4096 = c / 64 / 64 by omega])
      have ql : bits .or .u8 (c / 64 / 64) 224 = 224 + c / 64 / 64 := by have := or_u8 (c / 64 / 64).toNat 224 (by omega); rw [show (((c / 64 / 64).toNat : Nat) : Int) = c / 64 / 64 by omega] at this; simpa using (this.trans (by omega))
      have NC : Hid (∀ j u, (bts [224 + c / 64 / 64, 128 + c / 64 % 64, 128 + c % 64])[j]? = some u -> (wc.alloc (.cells #[.int .u8 (224 + c / 64 / 64), .int .u8 (128 + c / 64 % 64), .int .u8 (128 + c % 64), .int .u8 0] 114)).cell? ((⟨wc.heap.size, 0, none⟩ : Addr).add j) = some u) := zdy (fun j u hj => qT wc [.int .u8 (224 + c / 64 / 64), .int .u8 (128 + c / 64 % 64), .int .u8 (128 + c % 64), .int .u8 0] 114 j u (by
        have : j < 3 := (List.getElem?_eq_some_iff.1 hj).1
        have q : j = 0 \/ j = 1 \/ j = 2 := by omega
        rcases q with rfl | rfl | rfl <;> exact hj))
      go_wp2_with (at_builtin; refine wpList_append_own _ rfl (.tmp 67) (.tmp 69) 27 rfl LO 5 i0 (.int .u8 0) 1 1 Tryz.underlying27 hi0 hz0 hz1 hz2 rfl (by decide) _ _ _ rfl (HX.out _) ⟨wc.heap.size, 0, none⟩ 3 4 (bts [224 + c / 64 / 64, 128 + c / 64 % 64, 128 + c % 64]) rfl rfl NC.out (H1.out _) (H2.out 3 (by decide)).1 (H2.out 3 (by decide)).2 (H4.out _) ?_; intro v' w3 hown3 hg3 _)
      have R := zdy (O1.out wc [224 + c / 64 / 64, 128 + c / 64 % 64, 128 + c % 64] _ (Below.refl _ _) v' w3 hown3 hg3)
      clear hown3 hg3
      go_wp2_with fail
      go_ret
      rw [E.out]
      exact R.out
    have E : Hid (B = [240 + c / 64 / 64 / 64, 128 + c / 64 / 64 % 64, 128 + c / 64 % 64, 128 + c % 64]) := zdy (by rw [BI.out, if_neg t1, if_neg t2, if_neg t3, show c / 262144 = c / 64 / 64 / 64 by omega, show c / 4096 = c / 64 / 64 by omega])
    have ql : bits .or .u8 (c / 64 / 64 / 64) 240 = 240 + c / 64 / 64 / 64 := by have := or_u8 (c / 64 / 64 / 64).toNat 240 (by omega); rw [show (((c / 64 / 64 / 64).toNat : Nat) : Int) = c / 64 / 64 / 64 by omega] at this; simpa using (this.trans (by omega))
    have NC : Hid (∀ j u, (bts [240 + c / 64 / 64 / 64, 128 + c / 64 / 64 % 64, 128 + c / 64 % 64, 128 + c % 64])[j]? = some u -> (wc.alloc (.cells #[.int .u8 (240 + c / 64 / 64 / 64), .int .u8 (128 + c / 64 / 64 % 64), .int .u8 (128 + c / 64 % 64), .int .u8 (128 + c % 64)] 114)).cell? ((⟨wc.heap.size, 0, none⟩ : Addr).add j) = some u) := zdy (fun j u hj => qT wc [.int .u8 (240 + c / 64 / 64 / 64), .int .u8 (128 + c / 64 / 64 % 64), .int .u8 (128 + c / 64 % 64), .int .u8 (128 + c % 64)] 114 j u (by
      have : j < 4 := (List.getElem?_eq_some_iff.1 hj).1
      have q : j = 0 \/ j = 1 \/ j = 2 \/ j = 3 := by omega
      rcases q with rfl | rfl | rfl | rfl <;> exact hj))
    go_wp2_with (at_builtin; refine wpList_append_own _ rfl (.tmp 67) (.tmp 69) 27 rfl LO 5 i0 (.int .u8 0) 1 1 Tryz.underlying27 hi0 hz0 hz1 hz2 rfl (by decide) _ _ _ rfl (HX.out _) ⟨wc.heap.size, 0, none⟩ 4 4 (bts [240 + c / 64 / 64 / 64, 128 + c / 64 / 64 % 64, 128 + c / 64 % 64, 128 + c % 64]) rfl rfl NC.out (H1.out _) (H2.out 4 (by decide)).1 (H2.out 4 (by decide)).2 (H4.out _) ?_; intro v' w3 hown3 hg3 _)
    have R := zdy (O1.out wc [240 + c / 64 / 64 / 64, 128 + c / 64 / 64 % 64, 128 + c / 64 % 64, 128 + c % 64] _ (Below.refl _ _) v' w3 hown3 hg3)
    clear hown3 hg3
    go_wp2_with fail
    go_ret
    rw [E.out]
    exact R.out
end
section
open Go.RowKit Go.Sort
theorem XJ (l : List Int) : l.foldl (fun r n => r.push (UInt8.ofNat n.toNat)) ByteArray.empty = barr l := by
 have h : ∀ (l : List Int) (s : ByteArray), l.foldl (fun r n => r.push (UInt8.ofNat n.toNat)) s = ⟨s.data ++ (l.map fun n => UInt8.ofNat n.toNat).toArray⟩ := by
  intro l
  induction l with
  | nil => intro s; simp
  | cons n l ih =>
   intro s
   rw [List.foldl_cons, ih]
   simp [ByteArray.push]
 rw [h]
 unfold barr
 have : ByteArray.empty.data = #[] := rfl
 rw [this]
 simp
theorem conv_own {LO : Nat} {v : Value} {l : List Int} {w : World} (h : w.ownsRow LO 5 1 v l.length (bts l)) : (convert 27 9 v).run Tryz.prog w = .ok (.string (barr l)) w := by
 rcases (kG h).2 with ⟨rfl, z⟩ | ⟨g, c, rfl, _, _, _, _⟩
 ·have e : l = [] := List.length_eq_zero_iff.1 z
  subst e
  exact Lib.run_convert_nil_bytes w _ _ 5 0 Tryz.underlying27 Tryz.underlying5 Tryz.underlying9
 ·rw [run_convert_bytes_string w _ _ 5 (some ⟨g, 0, none⟩) l.length c Tryz.underlying27 Tryz.underlying5 Tryz.underlying9]
  have hl := run_loadCells_list (P := Tryz.prog) w ⟨g, 0, none⟩ (bts l) (h.cells (g := g) rfl)
  have e : (bts l).length = l.length := by simp [bts]
  rw [e] at hl
  rw [run_bytesToString w _ l.length c l hl, XJ]
theorem Ze {w : World} {B : Nat} {A : Option Addr} {l : List Int} (h : Sees w B A (rns l)) (k : Nat) (hk : k < l.length) : ∃ ad, A = some ad /\ ad.block < B /\ w.cell? (ad.add k) = some (.int .i32 (l.getD k 0)) := by
 obtain ⟨ad, e, b, c⟩ := h.at (k := k) (by simpa [rns] using hk)
 refine ⟨ad, e, b, ?_⟩
 rw [c]
 simp [rns, hk]
theorem getD_mem (l : List Int) (k : Nat) (hk : k < l.length) : l.getD k 0 ∈ l := by
 have e : l.getD k 0 = l[k] := by simp [hk]
 rw [e]
 exact List.getElem_mem _
set_option maxHeartbeats 8000000 in
set_option maxRecDepth 100000 in
theorem d_Text (A : Option Addr) (c : Nat) (l : List Int) (hl : l.length <= 35184372000000) (hr : ∀ r ∈ l, 0 <= r /\ r < 2097152) (w : World) (S : Sees w w.heap.size A (rns l)) :
  Calls Tryz.prog 101 #[.slice A l.length c] w fun e w' => e = .returned (.string (barr (zE l))) /\ Below w.heap.size w w' := by
 have F1 := zdy (fun (k : Nat) (hk : k < l.length) => Ze S k hk)
 have HR := zdy hr
 clear S hr
 obtain ⟨n, hn⟩ : ∃ n, n = l.length := ⟨_, rfl⟩
 have HN := zdy hn
 rw [<- hn] at hl F1 ⊢
 clear hn
 have XT : Hid (∀ k (hk : k < l.length), zE (l.take (k + 1)) = zE (l.take k) ++ qm (l.getD k 0)) := zdy (fun k hk => by
  have e : l.getD k 0 = l[k] := by simp [hk]
  rw [e, List.take_succ_eq_append_getElem hk, zaR])
 have XE : Hid (zE (l.take n) = zE l) := zdy (by rw [HN.out, List.take_length])
 have XL : Hid (∀ k, k <= n -> (zE (l.take k)).length <= 4 * k) := zdy (fun k hk => Nat.le_trans (ZO _) (by rw [List.length_take]; omega))
 obtain ⟨LO, hLO⟩ : ∃ LO, LO = w.heap.size := ⟨_, rfl⟩
 have HLO := zdy hLO
 have O0 : Hid (w.ownsRow LO 5 1 (.slice none 0 0) (zE (l.take 0)).length (bts (zE (l.take 0))) /\ Below LO w w) := zdy ⟨World.ownsRow_nil _ _ _ _, Below.refl _ _⟩
 rw [<- hLO] at F1 ⊢
 clear hLO
 go_enter Tryz.func101, Tryz.ntmps101
 go_wp2_with fail
 go_loopw [3, 5, 8] (fun s3 s5 s8 wr => ∃ (k : Nat), k <= n /\ s8 = .int .i64 k /\ Hid (wr.ownsRow LO 5 1 s3 (zE (l.take k)).length (bts (zE (l.take k))) /\ Below LO w wr)) (fun _ _ s8 _ => n - (intOf s8).toNat)
 case atStart => exact ⟨0, by omega, rfl, O0⟩
 case round =>
  obtain ⟨k, hk, rfl, ho⟩ := hrel
  by_cases lt : k < n
  ·have lt' : k < l.length := by rw [<- HN.out]; exact lt
   obtain ⟨ad, rfl, hab, c0⟩ := F1.out k lt
   have cx := (ho.out.2.cell (p := ad.add k) (by rw [z8]; exact hab)).trans c0
   have bd := HR.out (l.getD k 0) (getD_mem l k lt')
   have PU := zdy ((d_put LO _ (zE (l.take k)) (l.getD k 0) (by omega) (by omega) wr (by have := ho.out.2.size; rw [HLO.out]; omega) (by have := XL.out k hk; omega) ho.out.1).mono (R' := fun e w' => ∃ v', e = .returned v' /\ Hid (w'.ownsRow LO 5 1 v' (zE (l.take (k + 1))).length (bts (zE (l.take (k + 1)))) /\ Below LO w w'))
    (fun e w' ⟨v', h1, h2, h3⟩ => ⟨v', h1, zdy ⟨by rw [XT.out k lt']; exact h2, ho.out.2.trans h3⟩⟩))
   clear c0 bd
   generalize l.getD k 0 = r at *
   go_wp2_with fail
   refine PU.out.mono ?_; rintro e w1 ⟨v', rfl, SS⟩
   go_wp2_with fail
   go_roundw
   case rel => exact ⟨k + 1, by omega, by go_num, SS⟩
   case measure => (simp [intOf] <;> omega)
  ·have ek : k = n := by omega
   subst ek
   rw [XE.out] at ho
   have hcv := conv_own ho.out.1
   have BB := zdy ho.out.2
   clear ho
   go_wp2_with fail
   go_ret
   exact ⟨rfl, BB.out⟩
end
section
open Go.RowKit Go.Sort
def xm (l : List (Int × Int)) : List Value := l.flatMap fun p => [.int .i32 p.1, .int .i32 p.2]
set_option maxHeartbeats 8000000 in
set_option maxRecDepth 100000 in
theorem d_told (c : Nat) (hc : c < 9) (w : World) : Calls Tryz.prog 155 #[.int .i8 (c : Int)] w fun e w' => e = .returned (.slice (some ⟨w.heap.size, 0, none⟩) (qy c).length (qy c).length) /\ w' = w.alloc (.cells (xm (qy c)).toArray 192) := by
 have q : c = 0 \/ c = 1 \/ c = 2 \/ c = 3 \/ c = 4 \/ c = 5 \/ c = 6 \/ c = 7 \/ c = 8 := by omega
 rcases q with rfl | rfl | rfl | rfl | rfl | rfl | rfl | rfl | rfl
 all_goals
  go_enter Tryz.func155, Tryz.ntmps155
  go_wp2_with fail
  go_ret
  exact ⟨rfl, rfl⟩
end
section
open Go.RowKit Go.Sort
def SeesK (w : World) (g : Nat) (l : List (Int × Int)) : Prop := ∀ j, j < l.length -> w.cell? ⟨g, j * 2, none⟩ = some (.int .i32 (l.getD j (0, 0)).1) /\ w.cell? ⟨g, j * 2 + 1, none⟩ = some (.int .i32 (l.getD j (0, 0)).2)
theorem XK : ∀ (l : List (Int × Int)) (j : Nat), j < l.length -> (xm l)[j * 2]? = some (.int .i32 (l.getD j (0, 0)).1) /\ (xm l)[j * 2 + 1]? = some (.int .i32 (l.getD j (0, 0)).2)
 | [], j, h => by cases h
 | p :: l, 0, _ => ⟨rfl, rfl⟩
 | p :: l, j + 1, h => by
  have ih := XK l j (by simpa using h)
  have e : xm (p :: l) = .int .i32 p.1 :: .int .i32 p.2 :: xm l := rfl
  rw [e, show (j + 1) * 2 = j * 2 + 1 + 1 by omega]
  simpa using ih
theorem SeesK.new (w : World) (l : List (Int × Int)) (T : TypeId) : SeesK (w.alloc (.cells (xm l).toArray T)) w.heap.size l := fun j hj => by
 have h := XK l j hj
 exact ⟨(Qv w (xm l) T _ _ h.1).1, (Qv w (xm l) T _ _ h.2).1⟩
theorem SeesK.below {w w' : World} {g B : Nat} {l : List (Int × Int)} (h : SeesK w g l) (hb : Below B w w') (hg : g < B) : SeesK w' g l := fun j hj =>
 ⟨(hb.cell (p := ⟨g, j * 2, none⟩) hg).trans (h j hj).1, (hb.cell (p := ⟨g, j * 2 + 1, none⟩) hg).trans (h j hj).2⟩
set_option maxHeartbeats 4000000 in
set_option maxRecDepth 100000 in
theorem d_w1 (g bl br i : Nat) (l : List (Int × Int)) (r : Int) (hi : i < l.length) (w : World) (hl : w.cell? ⟨bl, 0, none⟩ = some (.slice (some ⟨g, 0, none⟩) l.length l.length)) (hr : w.cell? ⟨br, 0, none⟩ = some (.int .i32 r)) (hK : SeesK w g l) :
  Calls Tryz.prog 161 #[.int .i64 (i : Int), .pointer (some ⟨bl, 0, none⟩), .pointer (some ⟨br, 0, none⟩)] w fun e w' => e = .returned (.bool (decide (r <= (l.getD i (0, 0)).2))) /\ ∃ q, w' = w.drewN q := by
 obtain ⟨_, c1⟩ := hK i hi
 clear hK
 generalize (l.getD i (0, 0)).2 = y at *
 generalize l.length = n at *
 go_enter Tryz.func161, Tryz.ntmps161
 go_wp2_with fail
 go_quiet (fail)
 go_wp2_with fail
 go_ret
 exact ⟨rfl, _, rfl⟩
theorem count_lo (p : Nat -> Bool) (n lo : Nat) (hl : lo <= n) (h1 : ∀ t, t < lo -> p t = false) (h2 : ∀ t, lo <= t -> t < n -> p t = true) : (List.range n).countP (fun i => !p i) = lo := by
 have e : List.range n = List.range lo ++ (List.range (n - lo)).map (lo + ·) := by
  rw [<- List.range_add]
  congr 1
  omega
 rw [e, List.countP_append]
 have a : (List.range lo).countP (fun i => !p i) = lo := by
  have := List.countP_eq_length.2 (fun i (hi : i ∈ List.range lo) => show (!p i) = true by rw [h1 i (List.mem_range.1 hi)]; rfl)
  rw [this, List.length_range]
 have b : ((List.range (n - lo)).map (lo + ·)).countP (fun i => !p i) = 0 := by
  refine List.countP_eq_zero.2 fun i hi => ?_
  obtain ⟨j, hj, rfl⟩ := List.mem_map.1 hi
  have := List.mem_range.1 hj
  rw [h2 (lo + j) (by omega) (by omega)]
  decide
 omega
set_option maxHeartbeats 8000000 in
set_option maxRecDepth 100000 in
theorem d_search (g bl br : Nat) (l : List (Int × Int)) (r : Int) (hn : l.length <= 1000) (hm : ∀ i j, i <= j -> j < l.length -> (l.getD i (0, 0)).2 <= (l.getD j (0, 0)).2) (w : World) (hl : w.cell? ⟨bl, 0, none⟩ = some (.slice (some ⟨g, 0, none⟩) l.length l.length)) (hr : w.cell? ⟨br, 0, none⟩ = some (.int .i32 r)) (hK : SeesK w g l) :
  Calls Tryz.prog 58 #[.int .i64 (l.length : Int), .func (.func 161) #[] #[.pointer (some ⟨bl, 0, none⟩), .pointer (some ⟨br, 0, none⟩)]] w fun e w' => e = .returned (.int .i64 (qA l r : Int)) /\ ∃ q, w' = w.drewN q := by
 have C := zdy (fun i hi (W : World) (h : ∃ q, W = w.drewN q) => d_w1 g bl br i l r hi W (by obtain ⟨q, rfl⟩ := h; exact hl) (by obtain ⟨q, rfl⟩ := h; exact hr) (by obtain ⟨q, rfl⟩ := h; exact hK))
 have AK : Hid (qA l r = (List.range l.length).countP fun i => !decide (r <= (l.getD i (0, 0)).2)) := zdy rfl
 have HM : Hid (∀ i j, i <= j -> j < l.length -> decide (r <= (l.getD i (0, 0)).2) = true -> decide (r <= (l.getD j (0, 0)).2) = true) := zdy (fun i j h1 h2 h3 => by
  have := hm i j h1 h2
  have := of_decide_eq_true h3
  exact decide_eq_true (by omega))
 obtain ⟨p, hp⟩ : ∃ p : Nat -> Bool, p = fun i => decide (r <= (l.getD i (0, 0)).2) := ⟨_, rfl⟩
 have C : Hid (∀ i, i < l.length -> ∀ W : World, (∃ q, W = w.drewN q) -> Calls Tryz.prog 161 #[.int .i64 (i : Int), .pointer (some ⟨bl, 0, none⟩), .pointer (some ⟨br, 0, none⟩)] W fun e w' => e = .returned (.bool (p i)) /\ ∃ q, w' = W.drewN q) := by rw [hp]; exact C
 have AK : Hid (qA l r = (List.range l.length).countP fun i => !p i) := by rw [hp]; exact AK
 have HM : Hid (∀ i j, i <= j -> j < l.length -> p i = true -> p j = true) := by rw [hp]; exact HM
 clear hp hm hl hr hK
 generalize qA l r = ak at *
 generalize l.length = n at *
 go_enter Tryz.func58, Tryz.ntmps58
 go_wp2_with fail
 go_loopw [5, 6, 7] (fun s5 s6 s7 wr => ∃ lo hi : Nat, s5 = .int .i64 lo /\ s6 = .int .i64 hi /\ lo <= hi /\ hi <= n /\ (∃ q, wr = w.drewN q) /\ Hid ((∀ t, t < lo -> p t = false) /\ (∀ t, hi <= t -> t < n -> p t = true))) (fun s5 s6 _ _ => (intOf s6).toNat - (intOf s5).toNat)
 case atStart => exact ⟨0, n, rfl, rfl, by omega, zdA, ⟨0, rfl⟩, zdy ⟨fun t h => by omega, fun t h1 h2 => by omega⟩⟩
 case round =>
  obtain ⟨lo, hi, rfl, rfl, h1, h2, hq, I⟩ := hrel
  by_cases lt : lo < hi
  ·obtain ⟨m, hmm⟩ : ∃ m, m = (lo + hi) / 2 := ⟨_, rfl⟩
   have m1 : lo <= m := by omega
   have m2 : m < hi := by omega
   have em : ((lo : Int) + (hi : Int)) / 2 = (m : Int) := by omega
   have CC := zdy (C.out m (by omega) _ hq)
   have HQ := zdy hq
   clear hmm hq
   go_wp2_with fail
   refine CC.out.mono ?_; rintro e w1 ⟨rfl, q1, rfl⟩
   have NQ : Hid (∃ q, wr.drewN q1 = w.drewN q) := zdy (by
    obtain ⟨q, e⟩ := HQ.out
    exact ⟨q + q1, by rw [e, World.drewN_drewN]⟩)
   cases hp : p m with
   | true =>
    go_wp2_with fail
    go_roundw
    case rel => exact ⟨lo, m, rfl, rfl, m1, by omega, NQ.out, zdy ⟨I.out.1, fun t t1 t2 => HM.out m t t1 t2 hp⟩⟩
    case measure => simp [intOf]; omega
   | false =>
    go_wp2_with fail
    go_roundw
    case rel =>
     refine ⟨m + 1, hi, by go_num, rfl, by omega, h2, NQ.out, zdy ⟨fun t ht => ?_, I.out.2⟩⟩
     cases ht2 : p t with
     | false => rfl
     | true =>
      have := HM.out t m (by omega) (by omega) ht2
      rw [hp] at this
      cases this
    case measure => simp [intOf]; omega
  ·have e : lo = hi := by omega
   subst e
   have R : Hid (ak = lo) := zdy (by rw [AK.out]; exact count_lo p n lo h2 I.out.1 I.out.2)
   go_wp2_with fail
   go_ret
   exact ⟨by rw [R.out]; rfl, hq⟩
set_option maxHeartbeats 8000000 in
set_option maxRecDepth 100000 in
theorem d_within (g : Nat) (l : List (Int × Int)) (r : Int) (hn : l.length <= 1000) (hm : ∀ i j, i <= j -> j < l.length -> (l.getD i (0, 0)).2 <= (l.getD j (0, 0)).2) (w : World) (hg : g < w.heap.size) (hK : SeesK w g l) :
  Calls Tryz.prog 154 #[.slice (some ⟨g, 0, none⟩) l.length l.length, .int .i32 r] w fun e w' => e = .returned (.bool (jP l r)) /\ Below w.heap.size w w' := by
 have hmf : ∀ (fn : Fn) (first cap : Array Value) (w : World), (Instr.makeFunc fn first cap).run Tryz.prog w = .ok (.func fn first cap) w := fun _ _ _ _ => rfl
 obtain ⟨W, hW⟩ : ∃ W, W = (w.alloc (.cells #[.slice (some ⟨g, 0, none⟩) l.length l.length] 186)).alloc (.cells #[.int .i32 r] 21) := ⟨_, rfl⟩
 have hB : Below w.heap.size w W := by rw [hW]; exact ((Below.refl _ w).alloc zdA _).alloc (by simp) _
 have K1 := hK.below hB hg
 have c1 : W.cell? ⟨w.heap.size, 0, none⟩ = some (.slice (some ⟨g, 0, none⟩) l.length l.length) := by rw [hW]; simp [go_sem]
 have c2 : W.cell? ⟨w.heap.size + 1, 0, none⟩ = some (.int .i32 r) := by rw [hW]; simp [go_sem]
 have SE := zdy (d_search g w.heap.size (w.heap.size + 1) l r hn hm W c1 c2 K1)
 have WK : Hid (jP l r = (decide (qA l r < l.length) && decide ((l.getD (qA l r) (0, 0)).1 <= r))) := zdy rfl
 have KA : Hid (qA l r < l.length -> W.cell? ⟨g, qA l r * 2, none⟩ = some (.int .i32 (l.getD (qA l r) (0, 0)).1)) := zdy (fun h => (K1 _ h).1)
 have HB := zdy hB
 generalize jP l r = wk at *
 generalize qA l r = ak at *
 generalize (l.getD ak (0, 0)).1 = y at *
 generalize l.length = n at *
 clear hm hK K1 hB
 go_enter Tryz.func154, Tryz.ntmps154
 go_wp2_with fail
 rw [<- hW]
 clear hW
 refine SE.out.mono ?_; rintro e w' ⟨rfl, q, rfl⟩
 by_cases lt : ak < n
 ·have k0 := KA.out lt
  have R : Hid (wk = decide (y <= r)) := zdy (by rw [WK.out, decide_eq_true lt]; rfl)
  go_wp2_with fail
  go_quiet (fail)
  go_wp2_with fail
  go_ret
  exact ⟨by rw [R.out]; rfl, below_drewN (below_drewN HB.out _) _⟩
 ·have R : Hid (wk = false) := zdy (by rw [WK.out, decide_eq_false lt]; rfl)
  go_wp2_with fail
  go_quiet (fail)
  go_wp2_with fail
  go_ret
  exact ⟨by rw [R.out]; rfl, below_drewN (below_drewN HB.out _) _⟩
end
section
open Go.RowKit Go.Sort
theorem zbU (r : Int) (f c : Nat) (h : jP (qy c) r = true) : qH r (f + 1) c = c := by unfold qH; rw [if_pos h]
theorem zbV (r : Int) (f c : Nat) (h : jP (qy c) r = false) : qH r (f + 1) c = qH r f (c + 1) := by
 conv => lhs; unfold qH
 rw [if_neg (by rw [h]; decide)]
set_option maxHeartbeats 8000000 in
set_option maxRecDepth 100000 in
theorem Qy (r : Int) (w : World) : Calls Tryz.prog 147 #[.int .i32 r] w fun e w' => e = .returned (.int .i8 (zc r)) /\ Below w.heap.size w w' := by
 have KI : Hid (zc r = if r < 0 \/ 1114111 < r then 0 else qH r 9 0) := zdy (Jz r)
 have TO := zdy (fun c hc (W : World) => d_told c hc W)
 have WI : Hid (∀ c, c < 9 -> ∀ (W : World), Calls Tryz.prog 154 #[.slice (some ⟨W.heap.size, 0, none⟩) (qy c).length (qy c).length, .int .i32 r] (W.alloc (.cells (xm (qy c)).toArray 192)) fun e w' => e = .returned (.bool (jP (qy c) r)) /\ Below W.heap.size W w') := zdy (fun c hc W => by
  have hl := told_len ⟨c, hc⟩
  simp only at hl
  refine (d_within W.heap.size (qy c) r (by omega) (fun i j h1 h2 => zaU ⟨c, hc⟩ ⟨i, by omega⟩ ⟨j, by omega⟩ h1 h2) _ (by simp) (SeesK.new W (qy c) _)).mono fun e w' h => ⟨h.1, ?_⟩
  exact qV ((Below.refl _ W).alloc zdA _) (by simp) h.2)
 have FH := zdy (zbU r)
 have FM := zdy (zbV r)
 generalize zc r = kd at *
 by_cases h1 : r < 0
 ·have R : Hid (kd = 0) := zdy (by rw [KI.out, if_pos (Or.inl h1)])
  go_enter Tryz.func147, Tryz.ntmps147
  go_wp2_with fail
  go_ret
  exact ⟨by rw [R.out]; rfl, Below.refl _ _⟩
 by_cases h2 : 1114111 < r
 ·have R : Hid (kd = 0) := zdy (by rw [KI.out, if_pos (Or.inr h2)])
  go_enter Tryz.func147, Tryz.ntmps147
  go_wp2_with fail
  go_ret
  exact ⟨by rw [R.out]; rfl, Below.refl _ _⟩
 have R : Hid (kd = qH r 9 0) := zdy (by rw [KI.out, if_neg (by omega)])
 clear KI
 go_enter Tryz.func147, Tryz.ntmps147
 go_wp2_with fail
 go_loopw [3, 10] (fun s3 s10 wr => ∃ k : Nat, k <= 9 /\ s10 = .int .i8 k /\ Hid (qH r (9 - k) k = kd /\ Below w.heap.size w wr)) (fun _ s10 _ => 9 - (intOf s10).toNat)
 case atStart => exact ⟨0, by omega, rfl, zdy ⟨R.out.symm, Below.refl _ _⟩⟩
 case round =>
  obtain ⟨k, hk, rfl, hI⟩ := hrel
  by_cases lt : k < 9
  ·have T1 := zdy (TO.out k lt wr)
   have W1 := zdy (WI.out k lt wr)
   have FU : 9 - k = (9 - (k + 1)) + 1 := by omega
   have FK := hI.out.1
   rw [FU] at FK
   have FK := zdy FK
   have FH := zdy (FH.out (9 - (k + 1)) k)
   have FM := zdy (FM.out (9 - (k + 1)) k)
   clear FU
   generalize qy k = L at *
   go_wp2_with fail
   refine T1.out.mono ?_; rintro e w1 ⟨rfl, rfl⟩
   go_wp2_with fail
   refine W1.out.mono ?_; rintro e w1 ⟨rfl, hb1⟩
   have HB := zdy (hI.out.2.trans (hb1.mono hI.out.2.size))
   clear hb1
   cases hw : jP L r with
   | true =>
    have R2 : Hid (kd = (k : Int)) := zdy (by rw [<- FK.out]; exact FH.out hw)
    go_wp2_with fail
    go_ret
    exact ⟨by rw [R2.out]; rfl, HB.out⟩
   | false =>
    have NX : Hid (qH r (9 - (k + 1)) (k + 1) = kd /\ Below w.heap.size w w1) := zdy ⟨by rw [<- FK.out]; exact (FM.out hw).symm, HB.out⟩
    go_wp2_with fail
    go_roundw
    case rel => exact ⟨k + 1, by omega, by go_num, NX⟩
    case measure => simp [intOf]; omega
  ·have ek : k = 9 := by omega
   subst ek
   have R2 : Hid (kd = 9) := zdy (by rw [<- hI.out.1]; rfl)
   go_wp2_with fail
   go_ret
   exact ⟨by rw [R2.out]; rfl, hI.out.2⟩
theorem Qz (r : Int) : 0 <= zc r /\ zc r <= 9 := by
 rw [Jz]
 unfold xQ
 split
 ·omega
 ·have h : ∀ f c, c + f <= 9 -> 0 <= qH r f c /\ qH r f c <= 9 := by
   intro f
   induction f with
   | zero => intro c _; unfold qH; omega
   | succ f ih =>
    intro c hc
    unfold qH
    split
    ·omega
    ·exact ih (c + 1) (by omega)
  exact h 9 0 (by decide)
def ofK (k : Int) : Int := if k = 1 \/ k = 2 \/ k = 3 \/ k = 4 then 0 else if k = 7 \/ k = 5 then 2 else 1
set_option maxHeartbeats 8000000 in
set_option maxRecDepth 100000 in
theorem d_Of (r : Int) (w : World) : Calls Tryz.prog 148 #[.int .i32 r] w fun e w' => e = .returned (.int .i64 (ofK (zc r))) /\ Below w.heap.size w w' := by
 have KI := zdy (Qy r w)
 have kr := Qz r
 generalize zc r = k at *
 have q : k = 0 \/ k = 1 \/ k = 2 \/ k = 3 \/ k = 4 \/ k = 5 \/ k = 6 \/ k = 7 \/ k = 8 \/ k = 9 := by omega
 clear kr
 rcases q with rfl | rfl | rfl | rfl | rfl | rfl | rfl | rfl | rfl | rfl
 all_goals
  go_enter Tryz.func148, Tryz.ntmps148
  go_wp2_with fail
  refine KI.out.mono ?_; rintro e w1 ⟨rfl, hb1⟩
  go_wp2_with fail
  go_ret
  exact ⟨rfl, hb1⟩
set_option maxHeartbeats 8000000 in
set_option maxRecDepth 100000 in
theorem d_pic (k : Int) (h0 : 0 <= k) (h1 : k <= 9) (w : World) : Calls Tryz.prog 149 #[.int .i8 k] w fun e w' => e = .returned (.bool (picK k)) /\ w' = w := by
 have q : k = 0 \/ k = 1 \/ k = 2 \/ k = 3 \/ k = 4 \/ k = 5 \/ k = 6 \/ k = 7 \/ k = 8 \/ k = 9 := by omega
 rcases q with rfl | rfl | rfl | rfl | rfl | rfl | rfl | rfl | rfl | rfl
 all_goals
  go_enter Tryz.func149, Tryz.ntmps149
  go_wp2_with fail
  go_ret
  exact ⟨rfl, rfl⟩
end
end Go.Proofs.YtmaofighbpnbiaaGreatDoor
