/- A region that draws its order: its first n operations only read (or call what leaves old memory alone), in whatever order; those behind them stand in one forced order. One walk of the text's order serves (plain; of no program). -/
import Derived.Test.YthcdcbibbfdjmaaDoorBase
import Derived.StillTail
import Derived.Lib.QuietBelow
namespace Go.Proofs.YthcdcbibbfdjmaaDoor
open Go Go.Sort Go.RowKit
set_option linter.unusedVariables false

section
variable {P : Program} {ops : Array Oper} {md : Region.Mode} {C : World → Prop}

/-- behind f of the first n operations, in whatever order they come, L holds -/
def HeadQ (P : Program) (md : Region.Mode) (ops : Array Oper) (C : World → Prop) (n : Nat) (L : Array Bool → Act → Prop) : Nat → Array Bool → Act → Prop
  | 0, d, a => L d a
  | f + 1, d, a => Region.ready md ops d ≠ [] ∧ ∀ i, i ∈ Region.ready md ops d → i < n ∧ qOp P ops C i (fun a' => HeadQ P md ops C n L f (d.setIfInBounds i true) a') a

theorem HeadQ.any {n g : Nat} {L : Array Bool → Act → Prop} {Q' : Exit → Act → World → Prop} (tl : ∀ d a w, C w → L d a → wpAny P md ops Q' g d a w) (f : Nat) :
    ∀ (d : Array Bool) (a : Act) (w : World), C w → HeadQ P md ops C n L f d a → wpAny P md ops Q' (f + g) d a w := by
  induction f with
  | zero => intro d a w hw h; rw [Nat.zero_add]; exact tl d a w hw h
  | succ f ih =>
    intro d a w hw h
    have e : f + 1 + g = (f + g) + 1 := by omega
    rw [e]
    refine ⟨fun z => absurd z h.1, fun i hi => ?_⟩
    exact wpOp_of_qOp hw (fun a' w' hw' k => ih _ a' w' hw' k) (h.2 i hi).2

theorem HeadQ.first {n i : Nat} {oi : Oper} {v : Value} {L : Array Bool → Act → Prop} (hi : ops[i]? = some oi) (nosel : ∀ (j : Nat) (o : Oper) cs b, ops[j]? = some o → o.op ≠ .select cs b)
    (sink : Region.sinkB md ops n = true) (chain : Region.chainB md ops n = true) (hn : n < ops.size) (hin : i < n) (late : ∀ d a, L d a → ∀ j ∈ Region.ready md ops d, n ≤ j) (f : Nat) :
    ∀ (d : Array Bool) (a : Act), HeadInv md ops n d →
      (∀ j oj, ops[j]? = some oj → j ≠ i → d.getD j true = false → (∀ e ∈ oj.after, Region.binds md e = true → e.on ≠ i) → oi.apart ops oj = true) →
      i ∈ Region.ready md ops d → YieldsIn P ops C oi v a → HeadQ P md ops C n L f (d.setIfInBounds i true) (a.put oi.dst v) → HeadQ P md ops C n L (f + 1) d a := by
  induction f with
  | zero =>
    intro d a inv free hr hy H
    refine ⟨List.ne_nil_of_mem hr, fun j hj => ?_⟩
    have lt : j < n := Nat.lt_of_not_le fun h => tail_waits sink chain hn inv _ i rfl hin (mem_ready.1 hr).1 j h hj
    refine ⟨lt, ?_⟩
    rcases Nat.decEq j i with ne | e
    · exact absurd (late _ _ H j (ready_mono hj ne)) (by omega)
    · subst e; exact hy.qOp hi H
  | succ f ih =>
    intro d a inv free hr hy H
    refine ⟨List.ne_nil_of_mem hr, fun j hj => ?_⟩
    have lt : j < n := Nat.lt_of_not_le fun h => tail_waits sink chain hn inv _ i rfl hin (mem_ready.1 hr).1 j h hj
    refine ⟨lt, ?_⟩
    rcases Nat.decEq j i with ne | e
    · obtain ⟨ju, oj, hoj, all⟩ := mem_ready.1 hj
      have nw : ∀ e ∈ oj.after, Region.binds md e = true → e.on ≠ i := by
        intro e he hb q
        have := all e he hb
        rw [q, getD_both (mem_ready.1 hr).1] at this
        exact Bool.false_ne_true this
      have k := qOp_put hoj (free j oj hoj ne ju nw) (fun cs b => nosel i oi cs b hi) (fun cs b => nosel j oj cs b hoj) hy (H.2 j (ready_mono hj ne)).2
      refine qOp_mono (fun a' x => ?_) k
      refine ih (d.setIfInBounds j true) a' (inv.set hj lt) (fun m om hm mi mu mw => ?_) (ready_mono hr (Ne.symm ne)) x.1 (by rw [Array.setIfInBounds_comm _ _ ne]; exact x.2)
      refine free m om hm mi ?_ mw
      rcases Nat.decEq j m with jm | jm
      · rw [getD_set_ne true jm] at mu; exact mu
      · subst jm; exact ju
    · subst e; exact hy.qOp hi H

theorem HeadQ.lex {n g : Nat} {K : Act → Prop} (hsel : Region.noSelect ops = true) (sink : Region.sinkB md ops n = true) (chain : Region.chainB md ops n = true) (hn : n < ops.size) (l : List Oper) :
    ∀ (k : Nat) (d : Array Bool) (a : Act), (∀ j, j < l.length → l[j]? = ops[k + j]?) → k + l.length = n → HeadInv md ops n d → Region.lexHead md ops g l.length k d = true → wpQuiet P ops C K l a →
    HeadQ P md ops C n (fun d' a' => Region.seqB md ops g n d' = true ∧ K a') l.length d a := by
  induction l with
  | nil =>
    intro k d a _ hk _ hB h
    have e : k = n := hk
    subst e
    exact ⟨hB, h⟩
  | cons o l ih =>
    intro k d a hl hk inv hB h
    have ho : ops[k]? = some o := (hl 0 (by simp)).symm
    simp only [List.length_cons, Region.lexHead, Bool.and_eq_true, List.contains_iff_mem] at hB
    simp only [List.length_cons] at hk
    have q : qOp P ops C k (wpQuiet P ops C K l) a := by unfold qOp; rw [ho]; exact h
    obtain ⟨v, hy, hK⟩ := yieldsIn_of_qOp ho q
    refine HeadQ.first ho (Region.noSelect_spec hsel) sink chain hn (by omega) (fun d' a' z => seqB_ready z.1) l.length d a inv (Region.free_spec ho hB.1.2) hB.1.1 hy ?_
    refine ih (k + 1) _ _ (fun j hj => ?_) (by omega) (inv.set hB.1.1 (by omega)) hB.2 hK
    have := hl (j + 1) (by simp; omega)
    rw [show k + 1 + j = k + (j + 1) by omega, ← this]
    rfl

theorem wp_region_tail {id : Nat} {Q : Exit → Act → World → Prop} {a : Act} {w : World} {l : List Oper} (n : Nat) (hm : P.follows .mixedOrders = true) (hB : Region.lexTailB .any l.toArray n = true) (hC : C w.drew)
    (h : wpQuiet P l.toArray C (fun a' => ∀ w', C w' → wpList P l.toArray Q (l.drop n) a' w') (l.take n) a) : (Code.region id l.toArray true).wp P Q a w := by
  simp only [Region.lexTailB, Bool.and_eq_true, decide_eq_true_eq] at hB
  obtain ⟨⟨⟨⟨hsel, hn⟩, sink⟩, chain⟩, lx⟩ := hB
  have tk : (l.take n).length = n := by rw [List.length_take]; simp at hn; omega
  have dk : (l.drop n).length = l.toArray.size - n := by simp
  have inv : HeadInv .any l.toArray n (Array.replicate l.toArray.size false) :=
    ⟨by simp, fun j oj _ z => by rw [getD_replicate_false] at z; exact absurd z (by decide), fun t _ ht => getD_in (by simpa using ht) (getD_replicate_false _ _)⟩
  refine wp_region_any hm ?_
  have H := HeadQ.lex (md := .any) (g := l.toArray.size - n) hsel sink chain hn (l.take n) 0 (Array.replicate l.toArray.size false) a (fun j hj => by
    rw [tk] at hj
    simp [hj]) (by omega) inv (by rw [tk]; exact lx) h
  have R := HeadQ.any (Q' := Q) (g := l.toArray.size - n) (fun d a' w' hw' z => by
    have := wpAny_of_seq (md := .any) (Q' := Q) (l.drop n) n d a' w' (fun j => by simp [List.getElem?_drop]) (by rw [dk]; exact z.1) (z.2 w' hw')
    rwa [dk] at this) (l.take n).length _ a w.drew hC H
  rw [tk, show n + (l.toArray.size - n) = l.toArray.size by omega] at R
  exact R

/-- the class: some draws, some blocks laid behind -/
theorem wp_region_below_tail {id : Nat} {Q : Exit → Act → World → Prop} {a : Act} {w : World} {l : List Oper} (n : Nat) (hm : P.follows .mixedOrders = true) (hB : Region.lexTailB .any l.toArray n = true)
    (h : wpQuiet P l.toArray (fun w' => ∃ p : Regrown, w' = grow (redrawn w p.d) p.os) (fun a' => ∀ w', (∃ p : Regrown, w' = grow (redrawn w p.d) p.os) → wpList P l.toArray Q (l.drop n) a' w') (l.take n) a) :
    (Code.region id l.toArray true).wp P Q a w :=
  wp_region_tail n hm hB ⟨⟨w.drawn + 1, #[]⟩, by rw [grow_empty]; rfl⟩ h
/-- the class: some draws -/
theorem wp_region_draw_tail {id : Nat} {Q : Exit → Act → World → Prop} {a : Act} {w : World} {l : List Oper} (n : Nat) (hm : P.follows .mixedOrders = true) (hB : Region.lexTailB .any l.toArray n = true)
    (h : wpQuiet P l.toArray (fun w' => ∃ m, w' = w.drewN m) (fun a' => ∀ w', (∃ m, w' = w.drewN m) → wpList P l.toArray Q (l.drop n) a' w') (l.take n) a) :
    (Code.region id l.toArray true).wp P Q a w :=
  wp_region_tail n hm hB ⟨1, rfl⟩ h
end

theorem Gives.regrown {k : Nat} {args : Array Value} {v : Value} (h : Gives k args v) {w : World} {d : Nat} {os : Array Obj} : Calls Tryd.prog k args (grow (redrawn w d) os) fun e w'' => e = .returned v ∧ ∃ p : Regrown, w'' = grow (redrawn w p.d) p.os :=
  (h _).regrown_of
theorem Tells.regrown {k : Nat} {args : Array Value} {v : Value} (h : Tells k args v) {w : World} {d : Nat} {os : Array Obj} : Calls Tryd.prog k args (grow (redrawn w d) os) fun e w'' => e = .returned v ∧ ∃ p : Regrown, w'' = grow (redrawn w p.d) p.os :=
  (h _).mono fun _ _ ⟨a, b⟩ => ⟨a, ⟨d, os⟩, b.symm⟩
end Go.Proofs.YthcdcbibbfdjmaaDoor
