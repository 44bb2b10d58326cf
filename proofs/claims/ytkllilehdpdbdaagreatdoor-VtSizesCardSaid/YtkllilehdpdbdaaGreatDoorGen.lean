/- A region that draws its order: its first n operations only read (or call what leaves old memory alone), in whatever order; those behind them stand in one forced order. One walk of the text's order serves (plain; of no program). -/
import Derived.Test.YtkllilehdpdbdaaGreatDoorBase
import Derived.StillTail
import Derived.Lib.QuietBelow
namespace Go.Proofs.YtkllilehdpdbdaaGreatDoor
open Go Go.Sort Go.RowKit
set_option linter.unusedVariables false

section
variable {P : Program} {ops : Array Oper} {md : Region.Mode} {C : World → Prop}

/-- behind f of the first n operations, in whatever order they come, L holds -/
def HeadQ (P : Program) (md : Region.Mode) (ops : Array Oper) (C : World → Prop) (n : Nat) (L : Array Bool → Act → Prop) : Nat → Array Bool → Act → Prop
  | 0, d, a => L d a
  | f + 1, d, a => Region.ready md ops d ≠ [] ∧ ∀ i, i ∈ Region.ready md ops d → i < n ∧ qOp P ops C i (fun a' => HeadQ P md ops C n L f (d.setIfInBounds i true) a') a

theorem HeadQ.any {n g : Nat} {L : Array Bool → Act → Prop} {Q' : Exit → Act → World → Prop} (tl : ∀ d a w, C w → L d a → wpAny P md ops Q' g d a w) (f : Nat) :
    ∀ (d : Array Bool) (a : Act) (w : World), C w → HeadQ P md ops C n L f d a → wpAny P md ops Q' (f + g) d a w := by
  induction f with
  | zero => intro d a w hw h; rw [Nat.zero_add]; exact tl d a w hw h
  | succ f ih =>
    intro d a w hw h
    have e : f + 1 + g = (f + g) + 1 := by omega
    rw [e]
    refine ⟨fun z => absurd z h.1, fun i hi => ?_⟩
    exact wpOp_of_qOp hw (fun a' w' hw' k => ih _ a' w' hw' k) (h.2 i hi).2

theorem HeadQ.first {n i : Nat} {oi : Oper} {v : Value} {L : Array Bool → Act → Prop} (hi : ops[i]? = some oi) (nosel : ∀ (j : Nat) (o : Oper) cs b, ops[j]? = some o → o.op ≠ .select cs b)
    (sink : Region.sinkB md ops n = true) (chain : Region.chainB md ops n = true) (hn : n < ops.size) (hin : i < n) (late : ∀ d a, L d a → ∀ j ∈ Region.ready md ops d, n ≤ j) (f : Nat) :
    ∀ (d : Array Bool) (a : Act), HeadInv md ops n d →
      (∀ j oj, ops[j]? = some oj → j ≠ i → d.getD j true = false → (∀ e ∈ oj.after, Region.binds md e = true → e.on ≠ i) → oi.apart ops oj = true) →
      i ∈ Region.ready md ops d → YieldsIn P ops C oi v a → HeadQ P md ops C n L f (d.setIfInBounds i true) (a.put oi.dst v) → HeadQ P md ops C n L (f + 1) d a := by
  induction f with
  | zero =>
    intro d a inv free hr hy H
    refine ⟨List.ne_nil_of_mem hr, fun j hj => ?_⟩
    have lt : j < n := Nat.lt_of_not_le fun h => tail_waits sink chain hn inv _ i rfl hin (mem_ready.1 hr).1 j h hj
    refine ⟨lt, ?_⟩
    rcases Nat.decEq j i with ne | e
    · exact absurd (late _ _ H j (ready_mono hj ne)) (by omega)
    · subst e; exact hy.qOp hi H
  | succ f ih =>
    intro d a inv free hr hy H
    refine ⟨List.ne_nil_of_mem hr, fun j hj => ?_⟩
    have lt : j < n := Nat.lt_of_not_le fun h => tail_waits sink chain hn inv _ i rfl hin (mem_ready.1 hr).1 j h hj
    refine ⟨lt, ?_⟩
    rcases Nat.decEq j i with ne | e
    · obtain ⟨ju, oj, hoj, all⟩ := mem_ready.1 hj
      have nw : ∀ e ∈ oj.after, Region.binds md e = true → e.on ≠ i := by
        intro e he hb q
        have := all e he hb
        rw [q, getD_both (mem_ready.1 hr).1] at this
        exact Bool.false_ne_true this
      have k := qOp_put hoj (free j oj hoj ne ju nw) (fun cs b => nosel i oi cs b hi) (fun cs b => nosel j oj cs b hoj) hy (H.2 j (ready_mono hj ne)).2
      refine qOp_mono (fun a' x => ?_) k
      refine ih (d.setIfInBounds j true) a' (inv.set hj lt) (fun m om hm mi mu mw => ?_) (ready_mono hr (Ne.symm ne)) x.1 (by rw [Array.setIfInBounds_comm _ _ ne]; exact x.2)
      refine free m om hm mi ?_ mw
      rcases Nat.decEq j m with jm | jm
      · rw [getD_set_ne true jm] at mu; exact mu
      · subst jm; exact ju
    · subst e; exact hy.qOp hi H

theorem HeadQ.lex {n g : Nat} {K : Act → Prop} (hsel : Region.noSelect ops = true) (sink : Region.sinkB md ops n = true) (chain : Region.chainB md ops n = true) (hn : n < ops.size) (l : List Oper) :
    ∀ (k : Nat) (d : Array Bool) (a : Act), (∀ j, j < l.length → l[j]? = ops[k + j]?) → k + l.length = n → HeadInv md ops n d → Region.lexHead md ops g l.length k d = true → wpQuiet P ops C K l a →
    HeadQ P md ops C n (fun d' a' => Region.seqB md ops g n d' = true ∧ K a') l.length d a := by
  induction l with
  | nil =>
    intro k d a _ hk _ hB h
    have e : k = n := hk
    subst e
    exact ⟨hB, h⟩
  | cons o l ih =>
    intro k d a hl hk inv hB h
    have ho : ops[k]? = some o := (hl 0 (by simp)).symm
    simp only [List.length_cons, Region.lexHead, Bool.and_eq_true, List.contains_iff_mem] at hB
    simp only [List.length_cons] at hk
    have q : qOp P ops C k (wpQuiet P ops C K l) a := by unfold qOp; rw [ho]; exact h
    obtain ⟨v, hy, hK⟩ := yieldsIn_of_qOp ho q
    refine HeadQ.first ho (Region.noSelect_spec hsel) sink chain hn (by omega) (fun d' a' z => seqB_ready z.1) l.length d a inv (Region.free_spec ho hB.1.2) hB.1.1 hy ?_
    refine ih (k + 1) _ _ (fun j hj => ?_) (by omega) (inv.set hB.1.1 (by omega)) hB.2 hK
    have := hl (j + 1) (by simp; omega)
    rw [show k + 1 + j = k + (j + 1) by omega, ← this]
    rfl

theorem wp_region_tail {id : Nat} {Q : Exit → Act → World → Prop} {a : Act} {w : World} {l : List Oper} (n : Nat) (hm : P.follows .mixedOrders = true) (hB : Region.lexTailB .any l.toArray n = true) (hC : C w.drew)
    (h : wpQuiet P l.toArray C (fun a' => ∀ w', C w' → wpList P l.toArray Q (l.drop n) a' w') (l.take n) a) : (Code.region id l.toArray true).wp P Q a w := by
  simp only [Region.lexTailB, Bool.and_eq_true, decide_eq_true_eq] at hB
  obtain ⟨⟨⟨⟨hsel, hn⟩, sink⟩, chain⟩, lx⟩ := hB
  have tk : (l.take n).length = n := by rw [List.length_take]; simp at hn; omega
  have dk : (l.drop n).length = l.toArray.size - n := by simp
  have inv : HeadInv .any l.toArray n (Array.replicate l.toArray.size false) :=
    ⟨by simp, fun j oj _ z => by rw [getD_replicate_false] at z; exact absurd z (by decide), fun t _ ht => getD_in (by simpa using ht) (getD_replicate_false _ _)⟩
  refine wp_region_any hm ?_
  have H := HeadQ.lex (md := .any) (g := l.toArray.size - n) hsel sink chain hn (l.take n) 0 (Array.replicate l.toArray.size false) a (fun j hj => by
    rw [tk] at hj
    simp [hj]) (by omega) inv (by rw [tk]; exact lx) h
  have R := HeadQ.any (Q' := Q) (g := l.toArray.size - n) (fun d a' w' hw' z => by
    have := wpAny_of_seq (md := .any) (Q' := Q) (l.drop n) n d a' w' (fun j => by simp [List.getElem?_drop]) (by rw [dk]; exact z.1) (z.2 w' hw')
    rwa [dk] at this) (l.take n).length _ a w.drew hC H
  rw [tk, show n + (l.toArray.size - n) = l.toArray.size by omega] at R
  exact R

/-- the class: some draws, some blocks laid behind -/
theorem wp_region_below_tail {id : Nat} {Q : Exit → Act → World → Prop} {a : Act} {w : World} {l : List Oper} (n : Nat) (hm : P.follows .mixedOrders = true) (hB : Region.lexTailB .any l.toArray n = true)
    (h : wpQuiet P l.toArray (fun w' => ∃ p : Regrown, w' = grow (redrawn w p.d) p.os) (fun a' => ∀ w', (∃ p : Regrown, w' = grow (redrawn w p.d) p.os) → wpList P l.toArray Q (l.drop n) a' w') (l.take n) a) :
    (Code.region id l.toArray true).wp P Q a w :=
  wp_region_tail n hm hB ⟨⟨w.drawn + 1, #[]⟩, by rw [grow_empty]; rfl⟩ h
/-- the class: some draws -/
theorem wp_region_draw_tail {id : Nat} {Q : Exit → Act → World → Prop} {a : Act} {w : World} {l : List Oper} (n : Nat) (hm : P.follows .mixedOrders = true) (hB : Region.lexTailB .any l.toArray n = true)
    (h : wpQuiet P l.toArray (fun w' => ∃ m, w' = w.drewN m) (fun a' => ∀ w', (∃ m, w' = w.drewN m) → wpList P l.toArray Q (l.drop n) a' w') (l.take n) a) :
    (Code.region id l.toArray true).wp P Q a w :=
  wp_region_tail n hm hB ⟨1, rfl⟩ h
end

theorem Gives.regrown {k : Nat} {args : Array Value} {v : Value} (h : Gives k args v) {w : World} {d : Nat} {os : Array Obj} : Calls Tryz.prog k args (grow (redrawn w d) os) fun e w'' => e = .returned v ∧ ∃ p : Regrown, w'' = grow (redrawn w p.d) p.os :=
  (h _).regrown_of
theorem Tells.regrown {k : Nat} {args : Array Value} {v : Value} (h : Tells k args v) {w : World} {d : Nat} {os : Array Obj} : Calls Tryz.prog k args (grow (redrawn w d) os) fun e w'' => e = .returned v ∧ ∃ p : Regrown, w'' = grow (redrawn w p.d) p.os :=
  (h _).mono fun _ _ ⟨a, b⟩ => ⟨a, ⟨d, os⟩, b.symm⟩
end Go.Proofs.YtkllilehdpdbdaaGreatDoor

/- Four cells of a block, as a call has them (plain). -/
namespace Go.Proofs.YtkllilehdpdbdaaGreatDoor
open Go.RowKit Go.Sort
set_option linter.unusedVariables false

/-- four cells of a block -/
structure C4 (w : World) (b : Nat) (x0 x1 x2 x3 : Value) : Prop where
  c0 : w.cell? ⟨b, 0, none⟩ = some x0
  c1 : w.cell? ⟨b, 1, none⟩ = some x1
  c2 : w.cell? ⟨b, 2, none⟩ = some x2
  c3 : w.cell? ⟨b, 3, none⟩ = some x3
  f0 : w.frozen? ⟨b, 0, none⟩ = false
  f1 : w.frozen? ⟨b, 1, none⟩ = false
  f2 : w.frozen? ⟨b, 2, none⟩ = false
  f3 : w.frozen? ⟨b, 3, none⟩ = false

theorem C4.keep {w w' : World} {B b : Nat} {x0 x1 x2 x3 : Value} (h : C4 w b x0 x1 x2 x3) (hb : Below B w w') (hB : b < B) : C4 w' b x0 x1 x2 x3 :=
  ⟨(hb.cell (p := ⟨b, 0, none⟩) hB).trans h.c0, (hb.cell (p := ⟨b, 1, none⟩) hB).trans h.c1, (hb.cell (p := ⟨b, 2, none⟩) hB).trans h.c2, (hb.cell (p := ⟨b, 3, none⟩) hB).trans h.c3,
   (hb.frozen (p := ⟨b, 0, none⟩) hB).trans h.f0, (hb.frozen (p := ⟨b, 1, none⟩) hB).trans h.f1, (hb.frozen (p := ⟨b, 2, none⟩) hB).trans h.f2, (hb.frozen (p := ⟨b, 3, none⟩) hB).trans h.f3⟩
theorem C4.lt {w : World} {b : Nat} {x0 x1 x2 x3 : Value} (h : C4 w b x0 x1 x2 x3) : b < w.heap.size := block_lt_of_cell h.c0
theorem C4.regrown {w : World} {b : Nat} {x0 x1 x2 x3 : Value} (h : C4 w b x0 x1 x2 x3) (d : Nat) (os : Array Obj) : C4 (grow (redrawn w d) os) b x0 x1 x2 x3 := h.keep (below_regrown w d os) h.lt

theorem C4.far {w : World} {b b' o : Nat} {x0 x1 x2 x3 y : Value} (h : C4 w b x0 x1 x2 x3) (n : b ≠ b') : C4 (w.setCell ⟨b', o, none⟩ y) b x0 x1 x2 x3 := by
  obtain ⟨a0, a1, a2, a3, f0, f1, f2, f3⟩ := h
  constructor <;> simp [go_sem, *]
theorem C4.put {w : World} {b : Nat} {x0 x1 x2 x3 : Value} (h : C4 w b x0 x1 x2 x3) (y0 y1 y2 y3 : Value) : C4 ((((w.setCell ⟨b, 0, none⟩ y0).setCell ⟨b, 1, none⟩ y1).setCell ⟨b, 2, none⟩ y2).setCell ⟨b, 3, none⟩ y3) b y0 y1 y2 y3 := by
  obtain ⟨a0, a1, a2, a3, f0, f1, f2, f3⟩ := h
  constructor <;> simp [go_sem, *]
theorem C4.set0 {w : World} {b : Nat} {x0 x1 x2 x3 : Value} (h : C4 w b x0 x1 x2 x3) (y : Value) : C4 (w.setCell ⟨b, 0, none⟩ y) b y x1 x2 x3 := by
  obtain ⟨a0, a1, a2, a3, f0, f1, f2, f3⟩ := h
  constructor <;> simp [go_sem, *]
theorem C4.set1 {w : World} {b : Nat} {x0 x1 x2 x3 : Value} (h : C4 w b x0 x1 x2 x3) (y : Value) : C4 (w.setCell ⟨b, 1, none⟩ y) b x0 y x2 x3 := by
  obtain ⟨a0, a1, a2, a3, f0, f1, f2, f3⟩ := h
  constructor <;> simp [go_sem, *]
theorem C4.set2 {w : World} {b : Nat} {x0 x1 x2 x3 : Value} (h : C4 w b x0 x1 x2 x3) (y : Value) : C4 (w.setCell ⟨b, 2, none⟩ y) b x0 x1 y x3 := by
  obtain ⟨a0, a1, a2, a3, f0, f1, f2, f3⟩ := h
  constructor <;> simp [go_sem, *]
theorem C4.set3 {w : World} {b : Nat} {x0 x1 x2 x3 : Value} (h : C4 w b x0 x1 x2 x3) (y : Value) : C4 (w.setCell ⟨b, 3, none⟩ y) b x0 x1 x2 y := by
  obtain ⟨a0, a1, a2, a3, f0, f1, f2, f3⟩ := h
  constructor <;> simp [go_sem, *]
theorem C4.draw {w : World} {b : Nat} {x0 x1 x2 x3 : Value} (h : C4 w b x0 x1 x2 x3) (n : Nat) : C4 (w.drewN n) b x0 x1 x2 x3 := ⟨h.c0, h.c1, h.c2, h.c3, h.f0, h.f1, h.f2, h.f3⟩

/-- three cells of a block -/
structure C3 (w : World) (b : Nat) (x0 x1 x2 : Value) : Prop where
  c0 : w.cell? ⟨b, 0, none⟩ = some x0
  c1 : w.cell? ⟨b, 1, none⟩ = some x1
  c2 : w.cell? ⟨b, 2, none⟩ = some x2
  f0 : w.frozen? ⟨b, 0, none⟩ = false
  f1 : w.frozen? ⟨b, 1, none⟩ = false
  f2 : w.frozen? ⟨b, 2, none⟩ = false
theorem C3.keep {w w' : World} {B b : Nat} {x0 x1 x2 : Value} (h : C3 w b x0 x1 x2) (hb : Below B w w') (hB : b < B) : C3 w' b x0 x1 x2 :=
  ⟨(hb.cell (p := ⟨b, 0, none⟩) hB).trans h.c0, (hb.cell (p := ⟨b, 1, none⟩) hB).trans h.c1, (hb.cell (p := ⟨b, 2, none⟩) hB).trans h.c2,
   (hb.frozen (p := ⟨b, 0, none⟩) hB).trans h.f0, (hb.frozen (p := ⟨b, 1, none⟩) hB).trans h.f1, (hb.frozen (p := ⟨b, 2, none⟩) hB).trans h.f2⟩
theorem C3.lt {w : World} {b : Nat} {x0 x1 x2 : Value} (h : C3 w b x0 x1 x2) : b < w.heap.size := block_lt_of_cell h.c0
theorem C3.far {w : World} {b b' o : Nat} {x0 x1 x2 y : Value} (h : C3 w b x0 x1 x2) (n : b ≠ b') : C3 (w.setCell ⟨b', o, none⟩ y) b x0 x1 x2 := by
  obtain ⟨a0, a1, a2, f0, f1, f2⟩ := h
  constructor <;> simp [go_sem, *]
theorem C3.set0 {w : World} {b : Nat} {x0 x1 x2 : Value} (h : C3 w b x0 x1 x2) (y : Value) : C3 (w.setCell ⟨b, 0, none⟩ y) b y x1 x2 := by
  obtain ⟨a0, a1, a2, f0, f1, f2⟩ := h
  constructor <;> simp [go_sem, *]
theorem C3.set1 {w : World} {b : Nat} {x0 x1 x2 : Value} (h : C3 w b x0 x1 x2) (y : Value) : C3 (w.setCell ⟨b, 1, none⟩ y) b x0 y x2 := by
  obtain ⟨a0, a1, a2, f0, f1, f2⟩ := h
  constructor <;> simp [go_sem, *]
theorem C3.set2 {w : World} {b : Nat} {x0 x1 x2 : Value} (h : C3 w b x0 x1 x2) (y : Value) : C3 (w.setCell ⟨b, 2, none⟩ y) b x0 x1 y := by
  obtain ⟨a0, a1, a2, f0, f1, f2⟩ := h
  constructor <;> simp [go_sem, *]
theorem C3.put {w : World} {b : Nat} {x0 x1 x2 : Value} (h : C3 w b x0 x1 x2) (y0 y1 y2 : Value) : C3 (((w.setCell ⟨b, 0, none⟩ y0).setCell ⟨b, 1, none⟩ y1).setCell ⟨b, 2, none⟩ y2) b y0 y1 y2 := ((h.set0 y0).set1 y1).set2 y2
theorem C3.draw {w : World} {b : Nat} {x0 x1 x2 : Value} (h : C3 w b x0 x1 x2) (n : Nat) : C3 (w.drewN n) b x0 x1 x2 := ⟨h.c0, h.c1, h.c2, h.f0, h.f1, h.f2⟩
theorem C3.alloc {w : World} {b : Nat} {x0 x1 x2 : Value} (h : C3 w b x0 x1 x2) (o : Obj) : C3 (w.alloc o) b x0 x1 x2 := h.keep ((Below.refl w.heap.size w).alloc (Nat.le_refl _) o) h.lt
theorem C4.alloc {w : World} {b : Nat} {x0 x1 x2 x3 : Value} (h : C4 w b x0 x1 x2 x3) (o : Obj) : C4 (w.alloc o) b x0 x1 x2 x3 := h.keep ((Below.refl w.heap.size w).alloc (Nat.le_refl _) o) h.lt
theorem C3.regrown {w : World} {b : Nat} {x0 x1 x2 : Value} (h : C3 w b x0 x1 x2) (d : Nat) (os : Array Obj) : C3 (grow (redrawn w d) os) b x0 x1 x2 := h.keep (below_regrown w d os) h.lt
end Go.Proofs.YtkllilehdpdbdaaGreatDoor

/- A region that draws its order, in which slices are laid and handed on: a slot may hold what differs from order to order (a new slice's place), if what it shows is known and stays. One walk of the text's order serves (plain; of no program). -/
namespace Go.Proofs.YtkllilehdpdbdaaGreatDoor
open Go Go.Sort Go.RowKit
set_option linter.unusedVariables false

/-- the sign that stands in the walk's frame for a value that differs from order to order -/
def tokV : Value := .tuple #[.bool true, .bool false]

section
variable {P : Program} {ops : Array Oper} {md : Region.Mode} {C : World → Prop} {ts : List Tmp} {R : Tmp → Value → World → Prop}

/-- the walk's slot (frame b) as the run's frame a has it -/
def SimT (ts : List Tmp) (R : Tmp → Value → World → Prop) (a b : Act) (w : World) (t : Tmp) : Prop :=
  (t ∈ ts ∧ b.tmps.getD t undef = tokV ∧ R t (a.tmps.getD t undef) w) ∨ (¬ (t ∈ ts ∧ b.tmps.getD t undef = tokV) ∧ a.tmps.getD t undef = b.tmps.getD t undef)

structure SimA (ts : List Tmp) (R : Tmp → Value → World → Prop) (a b : Act) (w : World) : Prop where
  size : a.tmps.size = b.tmps.size
  defs : a.defers = b.defers
  all : ∀ t, SimT ts R a b w t

/-- an operation's end, carried out in the world w: a value of which r tells, old memory left alone -/
def bornUpon (P : Program) (w : World) (r : Value → World → Prop) : Result Next → Prop
  | .ok (.value u) w' => Below w.heap.size w w' ∧ r u w'
  | .ok .skip w' => Below w.heap.size w w' ∧ r undef w'
  | .ok (.enter f args) w' => Below w.heap.size w w' ∧ Calls P f args w' (fun e w'' => ∃ v, e = .returned v ∧ r v w'' ∧ Below w.heap.size w w'')
  | _ => False

def stepV (P : Program) (ops : Array Oper) (C : World → Prop) (ts : List Tmp) (R : Tmp → Value → World → Prop) (o : Oper) (x : Value) (b : Act) : Prop :=
  (¬ (x = tokV ∧ ∃ d ∈ ts, o.dst = some d) ∧ ∀ w a, C w → (∀ t ∈ o.looksAt ops, SimT ts R a b w t) → bornUpon P w (fun u _ => u = x) ((execOp a.eval o).run P w))
  ∨ (x = tokV ∧ ∃ d ∈ ts, o.dst = some d ∧ d < b.tmps.size ∧ ∀ w a, C w → (∀ t ∈ o.looksAt ops, SimT ts R a b w t) → bornUpon P w (R d) ((execOp a.eval o).run P w))

def yieldS (P : Program) (ops : Array Oper) (C : World → Prop) (ts : List Tmp) (R : Tmp → Value → World → Prop) (o : Oper) (x : Value) (b : Act) : Prop :=
  (Region.wanted o (yielded ops b.tmps) = true ∧ stepV P ops C ts R o x b) ∨ (Region.wanted o (yielded ops b.tmps) = false ∧ x = undef)

def sOp (P : Program) (ops : Array Oper) (C : World → Prop) (ts : List Tmp) (R : Tmp → Value → World → Prop) (i : Nat) (K : Act → Prop) (b : Act) : Prop :=
  match ops[i]? with
  | none => K b
  | some o => ∃ x, yieldS P ops C ts R o x b ∧ K (b.put o.dst x)

/-- the walk of the text's order -/
def wpS (P : Program) (ops : Array Oper) (C : World → Prop) (ts : List Tmp) (R : Tmp → Value → World → Prop) (K : Act → Prop) : List Oper → Act → Prop
  | [], b => K b
  | o :: l, b => ∃ x, yieldS P ops C ts R o x b ∧ wpS P ops C ts R K l (b.put o.dst x)

theorem put_getD (a : Act) (d : Option Tmp) (v : Value) (t : Tmp) : (a.put d v).tmps.getD t undef = if d = some t ∧ t < a.tmps.size then v else a.tmps.getD t undef := by
  cases d with
  | none => simp [Act.put]
  | some d =>
    simp only [Act.put, Option.some.injEq]
    by_cases e : d = t
    · subst e
      by_cases h : d < a.tmps.size
      · simp [h]
      · simp [h]
    · simp [e, Array.getElem?_setIfInBounds_ne e]
theorem put_size (a : Act) (d : Option Tmp) (v : Value) : (a.put d v).tmps.size = a.tmps.size := by cases d <;> simp [Act.put]
theorem put_defs (a : Act) (d : Option Tmp) (v : Value) : (a.put d v).defers = a.defers := by cases d <;> rfl

theorem simT_put {a b : Act} {w : World} {d : Option Tmp} {v : Value} {t : Tmp} (h : d ≠ some t) : SimT ts R a (b.put d v) w t ↔ SimT ts R a b w t := by
  unfold SimT
  rw [put_getD, if_neg (fun e => h e.1)]

theorem stepV_same {o oi : Oper} {x v : Value} {b : Act} (h : ∀ d, oi.dst = some d → d ∉ o.looksAt ops) : stepV P ops C ts R o x (b.put oi.dst v) ↔ stepV P ops C ts R o x b := by
  have e : ∀ a w, (∀ t ∈ o.looksAt ops, SimT ts R a (b.put oi.dst v) w t) ↔ (∀ t ∈ o.looksAt ops, SimT ts R a b w t) := fun a w =>
    forall_congr' fun t => forall_congr' fun ht => simT_put (fun q => h t q ht)
  unfold stepV
  simp only [e, put_size]
theorem yieldS_same {o oi : Oper} {x v : Value} {b : Act} (h : ∀ d, oi.dst = some d → d ∉ o.looksAt ops) : yieldS P ops C ts R o x (b.put oi.dst v) ↔ yieldS P ops C ts R o x b := by
  unfold yieldS
  rw [wanted_put o b oi.dst v h, stepV_same h]

theorem sOp_mono {i : Nat} {b : Act} {K K' : Act → Prop} (h : ∀ b, K b → K' b) (hh : sOp P ops C ts R i K b) : sOp P ops C ts R i K' b := by
  unfold sOp at *
  split
  · rename_i e; rw [e] at hh; exact h _ hh
  · rename_i o e
    rw [e] at hh
    obtain ⟨x, h1, h2⟩ := hh
    exact ⟨x, h1, h _ h2⟩
theorem yieldS.sOp {i : Nat} {o : Oper} {v : Value} {b : Act} (hi : ops[i]? = some o) (hy : yieldS P ops C ts R o v b) {K : Act → Prop} (h : K (b.put o.dst v)) : sOp P ops C ts R i K b := by
  unfold Go.Proofs.YtkllilehdpdbdaaGreatDoor.sOp
  rw [hi]
  exact ⟨v, hy, h⟩
theorem sOp_put {j : Nat} {oi oj : Oper} {v : Value} (hj : ops[j]? = some oj) (hap : oi.apart ops oj = true) {K : Act → Prop} {b : Act}
    (hy : yieldS P ops C ts R oi v b) (h : sOp P ops C ts R j K (b.put oi.dst v)) : sOp P ops C ts R j (fun b' => yieldS P ops C ts R oi v b' ∧ K (b'.put oi.dst v)) b := by
  obtain ⟨h1, h2, h3⟩ := Oper.apart_spec hap
  unfold sOp at *
  rw [hj] at h ⊢
  obtain ⟨x, hx, hn⟩ := h
  exact ⟨x, (yieldS_same h1).1 hx, (yieldS_same h3).2 hy, by rw [← Act.put_comm b v x h2]; exact hn⟩

def guardsB (ts : List Tmp) (ops : Array Oper) : Bool := ops.all fun o => match o.guard with
  | some (g, _) => (match (ops[g]?).bind (·.dst) with
    | some t => !ts.contains t
    | none => true)
  | none => true

theorem wanted_sim {i : Nat} {o : Oper} {a b : Act} {w : World} (hg : guardsB ts ops = true) (hi : ops[i]? = some o) (h : SimA ts R a b w) : Region.wanted o (yielded ops a.tmps) = Region.wanted o (yielded ops b.tmps) := by
  unfold Region.wanted
  cases e : o.guard with
  | none => rfl
  | some gw =>
    obtain ⟨g, want⟩ := gw
    have k := Array.all_eq_true_iff_forall_mem.1 hg o (Array.mem_of_getElem? hi)
    rw [e] at k
    simp only at k
    have hy : yielded ops a.tmps g = yielded ops b.tmps g := by
      unfold yielded
      cases ht : (ops[g]?).bind (·.dst) with
      | none => rfl
      | some t =>
        rw [ht] at k
        have nt : t ∉ ts := by simpa using k
        have z : a.tmps.getD t undef = b.tmps.getD t undef := by
          rcases h.all t with ⟨q, _⟩ | ⟨_, q⟩
          · exact absurd q nt
          · exact q
        have z2 : a.tmps[t]? = b.tmps[t]? := by
          by_cases lt : t < a.tmps.size
          · have lt2 : t < b.tmps.size := by rw [← h.size]; exact lt
            simp [lt, lt2] at z
            simp [lt, lt2, z]
          · have lt2 : ¬ t < b.tmps.size := by rw [← h.size]; exact lt
            rw [Array.getElem?_eq_none (Nat.le_of_not_lt lt), Array.getElem?_eq_none (Nat.le_of_not_lt lt2)]
        show (match a.tmps[t]? with | some (Value.bool b) => some b | _ => none) = (match b.tmps[t]? with | some (Value.bool b) => some b | _ => none)
        rw [z2]
    simp only [hy]

theorem sim_put {a b : Act} {w w' : World} {d : Option Tmp} {u x : Value} (stab : ∀ t v w w', Below w.heap.size w w' → R t v w → R t v w') (h : SimA ts R a b w) (hb : Below w.heap.size w w')
    (hx : (¬ (x = tokV ∧ ∃ t ∈ ts, d = some t) ∧ u = x) ∨ (x = tokV ∧ ∃ t ∈ ts, d = some t ∧ t < b.tmps.size ∧ R t u w')) : SimA ts R (a.put d u) (b.put d x) w' := by
  refine ⟨by rw [put_size, put_size]; exact h.size, by rw [put_defs, put_defs]; exact h.defs, fun t => ?_⟩
  unfold SimT
  rw [put_getD, put_getD, h.size]
  by_cases c : d = some t ∧ t < b.tmps.size
  · rw [if_pos c, if_pos c]
    rcases hx with ⟨n, rfl⟩ | ⟨rfl, t', m, e, l, r⟩
    · exact Or.inr ⟨fun q => n ⟨q.2, t, q.1, c.1⟩, rfl⟩
    · rw [c.1] at e
      cases e
      exact Or.inl ⟨m, rfl, r⟩
  · rw [if_neg c, if_neg c]
    rcases h.all t with ⟨p, q, r⟩ | q
    · exact Or.inl ⟨p, q, stab _ _ _ _ hb r⟩
    · exact Or.inr q

theorem wpOp_of_sOp {i : Nat} {a b : Act} {K : Act → Prop} {K' : Act → World → Prop} {Q' : Exit → Act → World → Prop} {w : World} (stab : ∀ t v w w', Below w.heap.size w w' → R t v w → R t v w') (hC : ∀ w w', C w → Below w.heap.size w w' → C w')
    (hg : guardsB ts ops = true) (hw : C w) (hs : SimA ts R a b w) (h : ∀ a' b' w', C w' → SimA ts R a' b' w' → K b' → K' a' w') (hh : sOp P ops C ts R i K b) : wpOp P ops Q' i K' a w := by
  unfold sOp at hh
  unfold wpOp
  split
  · rename_i e; rw [e] at hh; exact h _ _ _ hw hs hh
  · rename_i o e
    rw [e] at hh
    obtain ⟨x, hy, hK⟩ := hh
    rw [wanted_sim hg e hs]
    rcases hy with ⟨hwa, hy⟩ | ⟨hwa, rfl⟩
    · rw [if_pos hwa]
      refine Or.inl ?_
      obtain ⟨r, hr, hu⟩ : ∃ r : Value → World → Prop, bornUpon P w r ((execOp a.eval o).run P w) ∧ ∀ u w', Below w.heap.size w w' → r u w' → K' (a.put o.dst u) w' := by
        rcases hy with ⟨n, hy⟩ | ⟨rfl, d, m, ed, l, hy⟩
        · exact ⟨_, hy w a hw (fun t _ => hs.all t), fun u w' hb e => h _ _ _ (hC _ _ hw hb) (sim_put stab hs hb (Or.inl ⟨n, e⟩)) hK⟩
        · exact ⟨_, hy w a hw (fun t _ => hs.all t), fun u w' hb e => h _ _ _ (hC _ _ hw hb) (sim_put stab hs hb (Or.inr ⟨rfl, d, m, ed, l, e⟩)) hK⟩
      unfold Oper.wp
      generalize (execOp a.eval o).run P w = res at *
      cases res with
      | ok n w' =>
        cases n <;> simp only [bornUpon] at hr <;> simp only [Oper.upon]
        case value u => exact hu _ _ hr.1 hr.2
        case skip => exact hu _ _ hr.1 hr.2
        case enter f args =>
          refine hr.2.mono fun e w'' ⟨v, he, hv, hb⟩ => ?_
          subst he
          exact hu _ _ hb hv
      | halt x w' => simp only [bornUpon] at hr
    · rw [if_neg (by rw [hwa]; decide)]
      refine h _ _ _ hw (sim_put stab hs (Below.refl _ _) (Or.inl ⟨fun q => ?_, rfl⟩)) hK
      have := q.1
      unfold tokV at this
      cases this

/-- behind f of the first n operations, in whatever order they come, L holds -/
def HeadS (P : Program) (md : Region.Mode) (ops : Array Oper) (C : World → Prop) (ts : List Tmp) (R : Tmp → Value → World → Prop) (n : Nat) (L : Array Bool → Act → Prop) : Nat → Array Bool → Act → Prop
  | 0, d, b => L d b
  | f + 1, d, b => Region.ready md ops d ≠ [] ∧ ∀ i, i ∈ Region.ready md ops d → i < n ∧ sOp P ops C ts R i (fun b' => HeadS P md ops C ts R n L f (d.setIfInBounds i true) b') b

theorem HeadS.any {n g : Nat} {L : Array Bool → Act → Prop} {Q' : Exit → Act → World → Prop} (stab : ∀ t v w w', Below w.heap.size w w' → R t v w → R t v w') (hC : ∀ w w', C w → Below w.heap.size w w' → C w') (hg : guardsB ts ops = true)
    (tl : ∀ d a b w, C w → SimA ts R a b w → L d b → wpAny P md ops Q' g d a w) (f : Nat) :
    ∀ (d : Array Bool) (a b : Act) (w : World), C w → SimA ts R a b w → HeadS P md ops C ts R n L f d b → wpAny P md ops Q' (f + g) d a w := by
  induction f with
  | zero => intro d a b w hw hs h; rw [Nat.zero_add]; exact tl d a b w hw hs h
  | succ f ih =>
    intro d a b w hw hs h
    have e : f + 1 + g = (f + g) + 1 := by omega
    rw [e]
    refine ⟨fun z => absurd z h.1, fun i hi => ?_⟩
    exact wpOp_of_sOp stab hC hg hw hs (fun a' b' w' hw' hs' k => ih _ a' b' w' hw' hs' k) (h.2 i hi).2

theorem HeadS.first {n i : Nat} {oi : Oper} {v : Value} {L : Array Bool → Act → Prop} (hi : ops[i]? = some oi)
    (sink : Region.sinkB md ops n = true) (chain : Region.chainB md ops n = true) (hn : n < ops.size) (hin : i < n) (late : ∀ d b, L d b → ∀ j ∈ Region.ready md ops d, n ≤ j) (f : Nat) :
    ∀ (d : Array Bool) (b : Act), HeadInv md ops n d →
      (∀ j oj, ops[j]? = some oj → j ≠ i → d.getD j true = false → (∀ e ∈ oj.after, Region.binds md e = true → e.on ≠ i) → oi.apart ops oj = true) →
      i ∈ Region.ready md ops d → yieldS P ops C ts R oi v b → HeadS P md ops C ts R n L f (d.setIfInBounds i true) (b.put oi.dst v) → HeadS P md ops C ts R n L (f + 1) d b := by
  induction f with
  | zero =>
    intro d b inv free hr hy H
    refine ⟨List.ne_nil_of_mem hr, fun j hj => ?_⟩
    have lt : j < n := Nat.lt_of_not_le fun h => tail_waits sink chain hn inv _ i rfl hin (mem_ready.1 hr).1 j h hj
    refine ⟨lt, ?_⟩
    rcases Nat.decEq j i with ne | e
    · exact absurd (late _ _ H j (ready_mono hj ne)) (by omega)
    · subst e; exact hy.sOp hi H
  | succ f ih =>
    intro d b inv free hr hy H
    refine ⟨List.ne_nil_of_mem hr, fun j hj => ?_⟩
    have lt : j < n := Nat.lt_of_not_le fun h => tail_waits sink chain hn inv _ i rfl hin (mem_ready.1 hr).1 j h hj
    refine ⟨lt, ?_⟩
    rcases Nat.decEq j i with ne | e
    · obtain ⟨ju, oj, hoj, all⟩ := mem_ready.1 hj
      have nw : ∀ e ∈ oj.after, Region.binds md e = true → e.on ≠ i := by
        intro e he hb q
        have := all e he hb
        rw [q, getD_both (mem_ready.1 hr).1] at this
        exact Bool.false_ne_true this
      have k := sOp_put hoj (free j oj hoj ne ju nw) hy (H.2 j (ready_mono hj ne)).2
      refine sOp_mono (fun b' x => ?_) k
      refine ih (d.setIfInBounds j true) b' (inv.set hj lt) (fun m om hm mi mu mw => ?_) (ready_mono hr (Ne.symm ne)) x.1 (by rw [Array.setIfInBounds_comm _ _ ne]; exact x.2)
      refine free m om hm mi ?_ mw
      rcases Nat.decEq j m with jm | jm
      · rw [getD_set_ne true jm] at mu; exact mu
      · subst jm; exact ju
    · subst e; exact hy.sOp hi H

theorem HeadS.lex {n g : Nat} {K : Act → Prop} (sink : Region.sinkB md ops n = true) (chain : Region.chainB md ops n = true) (hn : n < ops.size) (l : List Oper) :
    ∀ (k : Nat) (d : Array Bool) (b : Act), (∀ j, j < l.length → l[j]? = ops[k + j]?) → k + l.length = n → HeadInv md ops n d → Region.lexHead md ops g l.length k d = true → wpS P ops C ts R K l b →
    HeadS P md ops C ts R n (fun d' b' => Region.seqB md ops g n d' = true ∧ K b') l.length d b := by
  induction l with
  | nil =>
    intro k d b _ hk _ hB h
    have e : k = n := hk
    subst e
    exact ⟨hB, h⟩
  | cons o l ih =>
    intro k d b hl hk inv hB h
    have ho : ops[k]? = some o := (hl 0 (by simp)).symm
    simp only [List.length_cons, Region.lexHead, Bool.and_eq_true, List.contains_iff_mem] at hB
    simp only [List.length_cons] at hk
    obtain ⟨v, hy, hK⟩ := h
    refine HeadS.first ho sink chain hn (by omega) (fun d' b' z => seqB_ready z.1) l.length d b inv (Region.free_spec ho hB.1.2) hB.1.1 hy ?_
    refine ih (k + 1) _ _ (fun j hj => ?_) (by omega) (inv.set hB.1.1 (by omega)) hB.2 hK
    have := hl (j + 1) (by simp; omega)
    rw [show k + 1 + j = k + (j + 1) by omega, ← this]
    rfl

/-- the frame with the slots' own values -/
def fillA (vs : Tmp → Value) : List Tmp → Act → Act
  | [], b => b
  | t :: r, b => (fillA vs r b).put (some t) (vs t)
theorem fill_getD (vs : Tmp → Value) (t : Tmp) : ∀ (l : List Tmp) (b : Act), (fillA vs l b).tmps.size = b.tmps.size ∧ (fillA vs l b).defers = b.defers ∧ (fillA vs l b).tmps.getD t undef = if t ∈ l ∧ t < b.tmps.size then vs t else b.tmps.getD t undef := by
  intro l
  induction l with
  | nil => intro b; simp [fillA]
  | cons s r ih =>
    intro b
    obtain ⟨h1, h2, h3⟩ := ih b
    refine ⟨by unfold fillA; rw [put_size, h1], by unfold fillA; rw [put_defs, h2], ?_⟩
    unfold fillA
    rw [put_getD, h1, h3]
    by_cases e : s = t
    · subst e
      by_cases l : s < b.tmps.size
      · simp [l]
      · simp [l]
    · by_cases l : t < b.tmps.size
      · simp [l, e, Ne.symm e]
      · simp [l, e]
theorem sim_fill {a b : Act} {w : World} (h : SimA ts R a b w) : ∃ vs : Tmp → Value, a = fillA vs ts b ∧ ∀ t ∈ ts, b.tmps.getD t undef = tokV → R t (vs t) w := by
  refine ⟨fun t => a.tmps.getD t undef, ?_, fun t ht e => ?_⟩
  · obtain ⟨at_, ad⟩ := a
    obtain ⟨f1, f2, _⟩ := fill_getD (fun t => at_.getD t undef) 0 ts b
    have e1 : at_ = (fillA (fun t => at_.getD t undef) ts b).tmps := by
      refine Array.ext (by rw [f1]; exact h.size) fun i h1 h2 => ?_
      have g := (fill_getD (fun t => at_.getD t undef) i ts b).2.2
      have z : at_.getD i undef = (fillA (fun t => at_.getD t undef) ts b).tmps.getD i undef := by
        rw [g]
        by_cases c : i ∈ ts ∧ i < b.tmps.size
        · rw [if_pos c]
        · rw [if_neg c]
          have lt : i < b.tmps.size := by rw [← h.size]; exact h1
          rcases h.all i with ⟨q, _⟩ | ⟨_, q⟩
          · exact absurd ⟨q, lt⟩ c
          · exact q
      have l1 : at_.getD i undef = at_[i] := by simp [h1]
      have l2 : (fillA (fun t => at_.getD t undef) ts b).tmps.getD i undef = (fillA (fun t => at_.getD t undef) ts b).tmps[i] := by rw [Array.getD_eq_getD_getElem?, Array.getElem?_eq_getElem h2]; rfl
      rw [← l1, ← l2, z]
    have e2 : ad = (fillA (fun t => at_.getD t undef) ts b).defers := by rw [f2]; exact h.defs
    show (⟨at_, ad⟩ : Act) = fillA (fun t => at_.getD t undef) ts b
    calc (⟨at_, ad⟩ : Act) = ⟨(fillA (fun t => at_.getD t undef) ts b).tmps, (fillA (fun t => at_.getD t undef) ts b).defers⟩ := by rw [← e1, ← e2]
      _ = _ := rfl
  · rcases h.all t with ⟨_, _, r⟩ | ⟨n, _⟩
    · exact r
    · exact absurd ⟨ht, e⟩ n

/-- the class of worlds: w with some draws, some blocks laid behind -/
def Later (w : World) : World → Prop := fun w' => ∃ p : Regrown, w' = grow (redrawn w p.d) p.os
theorem later_below {w w' : World} : Later w w' ↔ Below w.heap.size w w' :=
  ⟨fun ⟨p, e⟩ => by rw [e]; exact below_regrown _ _ _, fun h => regrown_of_below h⟩

theorem wp_region_any_order {id : Nat} {Q : Exit → Act → World → Prop} {a : Act} {w : World} {l : List Oper} (n : Nat) (ts : List Tmp) (R : Tmp → Value → World → Prop) (hm : P.follows .mixedOrders = true)
    (hB : Region.lexTailB .any l.toArray n = true) (hg : guardsB ts l.toArray = true) (h0 : ∀ t ∈ ts, a.tmps.getD t undef ≠ tokV) (stab : ∀ t v w w', Below w.heap.size w w' → R t v w → R t v w')
    (h : wpS P l.toArray (Later w) ts R (fun b => ∀ w' vs, Later w w' → (∀ t ∈ ts, b.tmps.getD t undef = tokV → R t (vs t) w') → wpList P l.toArray Q (l.drop n) (fillA vs ts b) w') (l.take n) a) :
    (Code.region id l.toArray true).wp P Q a w := by
  simp only [Region.lexTailB, Bool.and_eq_true, decide_eq_true_eq] at hB
  obtain ⟨⟨⟨⟨hsel, hn⟩, sink⟩, chain⟩, lx⟩ := hB
  have tk : (l.take n).length = n := by rw [List.length_take]; simp at hn; omega
  have dk : (l.drop n).length = l.toArray.size - n := by simp
  have inv : HeadInv .any l.toArray n (Array.replicate l.toArray.size false) :=
    ⟨by simp, fun j oj _ z => by rw [getD_replicate_false] at z; exact absurd z (by decide), fun t _ ht => getD_in (by simpa using ht) (getD_replicate_false _ _)⟩
  have hC : ∀ w1 w2, Later w w1 → Below w1.heap.size w1 w2 → Later w w2 := fun w1 w2 h1 h2 => later_below.2 ((later_below.1 h1).trans (h2.mono (later_below.1 h1).size))
  have s0 : SimA ts R a a w.drew := ⟨rfl, rfl, fun t => Or.inr ⟨fun q => h0 t q.1 q.2, rfl⟩⟩
  have c0 : Later w w.drew := later_below.2 ⟨rfl, rfl, rfl, Nat.le_refl _, fun _ _ => rfl⟩
  refine wp_region_any hm ?_
  have H := HeadS.lex (md := .any) (g := l.toArray.size - n) sink chain hn (l.take n) 0 (Array.replicate l.toArray.size false) a (fun j hj => by
    rw [tk] at hj
    simp [hj]) (by omega) inv (by rw [tk]; exact lx) h
  have X := HeadS.any (Q' := Q) (g := l.toArray.size - n) stab hC hg (fun d a' b' w' hw' hs' z => by
    obtain ⟨vs, rfl, hv⟩ := sim_fill hs'
    have := wpAny_of_seq (md := .any) (Q' := Q) (l.drop n) n d (fillA vs ts b') w' (fun j => by simp [List.getElem?_drop]) (by rw [dk]; exact z.1) (z.2 w' vs hw' hv)
    rwa [dk] at this) (l.take n).length _ a a w.drew c0 s0 H
  rw [tk, show n + (l.toArray.size - n) = l.toArray.size by omega] at X
  exact X

/-! The steps of the walk. -/
@[go_sem] def growUpon (P : Program) (w : World) (v : Value) : Result Next → Prop
  | .ok (.value u) w' => w' = w ∧ u = v
  | .ok .skip w' => w' = w ∧ v = undef
  | .ok (.enter f args) w' => w' = w ∧ Calls P f args w (fun e w'' => e = .returned v ∧ Later w w'')
  | _ => False
theorem born_of_grow {w : World} {v : Value} {r : Result Next} (h : growUpon P w v r) : bornUpon P w (fun u _ => u = v) r := by
  cases r with
  | ok n w' =>
    cases n <;> simp only [growUpon] at h <;> simp only [bornUpon]
    case value u => exact ⟨by rw [h.1]; exact Below.refl _ _, h.2⟩
    case skip => exact ⟨by rw [h.1]; exact Below.refl _ _, h.2.symm⟩
    case enter f args =>
      obtain ⟨rfl, hc⟩ := h
      exact ⟨Below.refl _ _, hc.mono fun e w'' ⟨he, hb⟩ => ⟨v, he, rfl, later_below.1 hb⟩⟩
  | halt x w' => simp only [growUpon] at h

@[go_sem] def quietS (P : Program) (o : Oper) (b : Act) (w0 : World) (K : Act → Prop) : Prop := ∃ v, (∀ p : Regrown, growUpon P (grow (redrawn w0 p.d) p.os) v ((execOp b.eval o).run P (grow (redrawn w0 p.d) p.os))) ∧ K (b.put o.dst v)

/-- looks at no such slot, and is none -/
def plainOp (ts : List Tmp) (ops : Array Oper) (o : Oper) : Bool := (o.looksAt ops).all (fun t => !ts.contains t) && (match o.dst with | some d => !ts.contains d | none => true) && (match o.op with | .select _ _ => false | _ => true)

theorem agree_of {o : Oper} {a b : Act} {w : World} (hs : ∀ cs d, o.op ≠ .select cs d) (hp : ∀ t ∈ o.looksAt ops, t ∉ ts) (h : ∀ t ∈ o.looksAt ops, SimT ts R a b w t) : execOp a.eval o = execOp b.eval o := by
  refine execOp_congr o hs fun x hx => ?_
  cases x with
  | tmp t =>
    have m : t ∈ o.looksAt ops := List.mem_append_left _ (List.mem_filterMap.2 ⟨.tmp t, by simpa using hx, rfl⟩)
    rcases h t m with ⟨q, _⟩ | ⟨_, q⟩
    · exact absurd q (hp t m)
    · exact q
  | _ => rfl

theorem wpS_nil {K : Act → Prop} {b : Act} (h : K b) : wpS P ops C ts R K [] b := h
theorem wpS_step {w0 : World} {K0 : Act → Prop} {b : Act} {o : Oper} {rest : List Oper} (hp : plainOp ts ops o = true)
    (h : ∀ K : Act → Prop, (∀ b, wpS P ops (Later w0) ts R K0 rest b → K b) → if Region.wanted o (yielded ops b.tmps) then quietS P o b w0 K else K (b.put o.dst undef)) : wpS P ops (Later w0) ts R K0 (o :: rest) b := by
  have k := h _ (fun _ h => h)
  simp only [plainOp, Bool.and_eq_true, List.all_eq_true] at hp
  obtain ⟨⟨p1, p2⟩, p3⟩ := hp
  split at k
  · rename_i hw
    obtain ⟨v, hv, hk⟩ := k
    refine ⟨v, Or.inl ⟨hw, Or.inl ⟨?_, fun w a hC hl => ?_⟩⟩, hk⟩
    · rintro ⟨_, d, m, e⟩
      rw [e] at p2
      simp at p2
      exact p2 m
    · obtain ⟨p, rfl⟩ := hC
      rw [agree_of (fun cs d e => by rw [e] at p3; cases p3) (fun t ht => by have := p1 t ht; simpa using this) hl]
      exact born_of_grow (hv p)
  · rename_i hw
    exact ⟨undef, Or.inr ⟨by simpa using hw, rfl⟩, k⟩

/-- a slot of the list gets its value -/
theorem wpS_born {w0 : World} {K0 : Act → Prop} {b : Act} {o : Oper} {rest : List Oper} (d : Tmp) (hd : o.dst = some d) (hm : d ∈ ts) (hs : d < b.tmps.size) (hw : Region.wanted o (yielded ops b.tmps) = true)
    (hp : (o.looksAt ops).all (fun t => !ts.contains t) = true) (hsel : ∀ cs d, o.op ≠ .select cs d)
    (h : ∀ p : Regrown, bornUpon P (grow (redrawn w0 p.d) p.os) (R d) ((execOp b.eval o).run P (grow (redrawn w0 p.d) p.os))) (k : wpS P ops (Later w0) ts R K0 rest (b.put o.dst tokV)) : wpS P ops (Later w0) ts R K0 (o :: rest) b := by
  refine ⟨tokV, Or.inl ⟨hw, Or.inr ⟨rfl, d, hm, hd, hs, fun w a hC hl => ?_⟩⟩, k⟩
  obtain ⟨p, rfl⟩ := hC
  rw [agree_of hsel (fun t ht => by have := List.all_eq_true.1 hp t ht; simpa using this) hl]
  exact h p

/-- a slot of the list is looked at -/
theorem wpS_use {w0 : World} {K0 : Act → Prop} {b : Act} {o : Oper} {rest : List Oper} (t : Tmp) (v : Value) (hm : t ∈ ts) (hs : t < b.tmps.size) (hb : b.tmps.getD t undef = tokV) (hw : Region.wanted o (yielded ops b.tmps) = true)
    (hin : (o.looksAt ops).contains t = true) (hp : (o.looksAt ops).all (fun s => s == t || !ts.contains s) = true) (hd : (match o.dst with | some d => !ts.contains d | none => true) = true) (hsel : ∀ cs d, o.op ≠ .select cs d)
    (h : ∀ (p : Regrown) u, R t u (grow (redrawn w0 p.d) p.os) → growUpon P (grow (redrawn w0 p.d) p.os) v ((execOp (b.put (some t) u).eval o).run P (grow (redrawn w0 p.d) p.os)))
    (k : wpS P ops (Later w0) ts R K0 rest (b.put o.dst v)) : wpS P ops (Later w0) ts R K0 (o :: rest) b := by
  refine ⟨v, Or.inl ⟨hw, Or.inl ⟨?_, fun w a hC hl => ?_⟩⟩, k⟩
  · rintro ⟨_, d, m, e⟩
    rw [e] at hd
    simp at hd
    exact hd m
  · obtain ⟨p, rfl⟩ := hC
    have ht : t ∈ o.looksAt ops := by simpa using hin
    have r : R t (a.tmps.getD t undef) (grow (redrawn w0 p.d) p.os) := by
      rcases hl t ht with ⟨_, _, r⟩ | ⟨n, _⟩
      · exact r
      · exact absurd ⟨hm, hb⟩ n
    have e : execOp a.eval o = execOp (b.put (some t) (a.tmps.getD t undef)).eval o := by
      refine execOp_congr o hsel fun x hx => ?_
      cases x with
      | tmp s =>
        have m : s ∈ o.looksAt ops := List.mem_append_left _ (List.mem_filterMap.2 ⟨.tmp s, by simpa using hx, rfl⟩)
        show a.tmps.getD s undef = (b.put (some t) (a.tmps.getD t undef)).tmps.getD s undef
        rw [put_getD]
        by_cases q : t = s
        · subst q; rw [if_pos ⟨rfl, hs⟩]
        · rw [if_neg (fun z => q (Option.some.inj z.1))]
          have := List.all_eq_true.1 hp s m
          rcases hl s m with ⟨z, _⟩ | ⟨_, z⟩
          · simp [Ne.symm q] at this; exact absurd z this
          · exact z
      | _ => rfl
    rw [e]
    exact born_of_grow (h p _ r)
end

theorem below_put3' {B b : Nat} {a w : World} (h : Below B a w) (hb : B ≤ b) (x y z : Value) : Below B a (((w.setCell ⟨b, 0, none⟩ x).setCell ⟨b, 1, none⟩ y).setCell ⟨b, 2, none⟩ z) := ((h.setCell (p := ⟨b, 0, none⟩) hb x).setCell (p := ⟨b, 1, none⟩) hb y).setCell (p := ⟨b, 2, none⟩) hb z
theorem below_put4 {B b : Nat} {a w : World} (h : Below B a w) (hb : B ≤ b) (x y z u : Value) : Below B a ((((w.setCell ⟨b, 0, none⟩ x).setCell ⟨b, 1, none⟩ y).setCell ⟨b, 2, none⟩ z).setCell ⟨b, 3, none⟩ u) := (below_put3' h hb x y z).setCell (p := ⟨b, 3, none⟩) hb u

/-- what is known of such a slot, and stays -/
structure Spec where
  r : Value → World → Prop
  stab : ∀ v w w', Below w.heap.size w w' → r v w → r v w'
def specR (l : List (Tmp × Spec)) (t : Tmp) (v : Value) (w : World) : Prop := ((l.lookup t).map fun s => s.r v w).getD False
theorem specR_stab (l : List (Tmp × Spec)) (t : Tmp) (v : Value) (w w' : World) (hb : Below w.heap.size w w') (h : specR l t v w) : specR l t v w' := by
  unfold specR at *
  cases e : l.lookup t with
  | none => rw [e] at h; exact h
  | some s => rw [e] at h; exact s.stab _ _ _ hb h

theorem wp_region_spec {P : Program} {id : Nat} {Q : Exit → Act → World → Prop} {a : Act} {w : World} {l : List Oper} (n : Nat) (sp : List (Tmp × Spec)) (ts : List Tmp) (hm : P.follows .mixedOrders = true)
    (hB : Region.lexTailB .any l.toArray n = true) (hg : guardsB ts l.toArray = true) (h0 : ∀ t ∈ ts, a.tmps.getD t undef ≠ tokV)
    (h : wpS P l.toArray (Later w) ts (specR sp) (fun b => ∀ w' vs, Later w w' → (∀ t ∈ ts, b.tmps.getD t undef = tokV → specR sp t (vs t) w') → wpList P l.toArray Q (l.drop n) (fillA vs ts b) w') (l.take n) a) :
    (Code.region id l.toArray true).wp P Q a w := wp_region_any_order n ts (specR sp) hm hB hg h0 (specR_stab sp) h

theorem Gives.later {k : Nat} {args : Array Value} {v : Value} (h : Gives k args v) {w : World} : Calls Tryz.prog k args w fun e w'' => e = .returned v ∧ Later w w'' := (h w).mono fun _ _ ⟨a, b⟩ => ⟨a, later_below.2 b⟩
theorem Tells.later {k : Nat} {args : Array Value} {v : Value} (h : Tells k args v) {w : World} : Calls Tryz.prog k args w fun e w'' => e = .returned v ∧ Later w w'' := (h w).mono fun _ _ ⟨a, b⟩ => ⟨a, later_below.2 (by rw [← b]; exact Below.refl _ _)⟩
theorem calls_later {P : Program} {k : Nat} {args : Array Value} {v : Value} {w : World} (h : Calls P k args w fun e w' => e = .returned v ∧ Below w.heap.size w w') : Calls P k args w fun e w'' => e = .returned v ∧ Later w w'' := h.mono fun _ _ ⟨a, b⟩ => ⟨a, later_below.2 b⟩

/-- a pointer to a new block with these cells -/
def NewC (B : Nat) (cs : List Value) (v : Value) (w : World) : Prop := ∃ g, v = .pointer (some ⟨g, 0, none⟩) ∧ B ≤ g ∧ g < w.heap.size ∧ ∀ i u, cs[i]? = some u → w.cell? ⟨g, i, none⟩ = some u ∧ w.frozen? ⟨g, i, none⟩ = false
theorem NewC.stab {B : Nat} {cs : List Value} {v : Value} {w w' : World} (hb : Below w.heap.size w w') (h : NewC B cs v w) : NewC B cs v w' := by
  obtain ⟨g, e, b, l, c⟩ := h
  exact ⟨g, e, b, Nat.lt_of_lt_of_le l hb.size, fun i u hu => ⟨(hb.cell (p := ⟨g, i, none⟩) l).trans (c i u hu).1, (hb.frozen (p := ⟨g, i, none⟩) l).trans (c i u hu).2⟩⟩

/-- a slice that shows these cells -/
def Shows (n : Nat) (cs : List Value) (v : Value) (w : World) : Prop := ∃ g, v = .slice (some ⟨g, 0, none⟩) n n ∧ g < w.heap.size ∧ ∀ i u, cs[i]? = some u → w.cell? ⟨g, i, none⟩ = some u
theorem Shows.stab {n : Nat} {cs : List Value} {v : Value} {w w' : World} (hb : Below w.heap.size w w') (h : Shows n cs v w) : Shows n cs v w' := by
  obtain ⟨g, e, l, c⟩ := h
  exact ⟨g, e, Nat.lt_of_lt_of_le l hb.size, fun i u hu => (hb.cell (p := ⟨g, i, none⟩) l).trans (c i u hu)⟩
def newS (B : Nat) (cs : List Value) : Spec := ⟨NewC B cs, fun _ _ _ => NewC.stab⟩
def showS (n : Nat) (cs : List Value) : Spec := ⟨Shows n cs, fun _ _ _ => Shows.stab⟩
theorem new_cell (w : World) (cs : List Value) (T : TypeId) (i : Nat) (u : Value) (h : cs[i]? = some u) : (w.alloc (.cells cs.toArray T)).cell? ⟨w.heap.size, i, none⟩ = some u ∧ (w.alloc (.cells cs.toArray T)).frozen? ⟨w.heap.size, i, none⟩ = false := by
  simp [go_sem, h]
theorem born_slice {P : Program} {w : World} {n g : Nat} {T : TypeId} {cs : List Value} (e : g = w.heap.size) : bornUpon P w (Shows n cs) (.ok (.value (.slice (some ⟨g, 0, none⟩) n n)) (w.alloc (.cells cs.toArray T))) := by
  subst e
  exact ⟨(Below.refl _ _).alloc (Nat.le_refl _) _, _, rfl, by simp, fun i u h => (new_cell w cs T i u h).1⟩
theorem born_new {P : Program} {w : World} {B g : Nat} {T : TypeId} {cs : List Value} (e : g = w.heap.size) (hB : B ≤ w.heap.size) : bornUpon P w (NewC B cs) (.ok (.value (.pointer (some ⟨g, 0, none⟩))) (w.alloc (.cells cs.toArray T))) := by
  subst e
  exact ⟨(Below.refl _ _).alloc (Nat.le_refl _) _, _, rfl, hB, by simp, fun i u h => new_cell w cs T i u h⟩
end Go.Proofs.YtkllilehdpdbdaaGreatDoor
