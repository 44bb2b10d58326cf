/- Two pairs of writers side by side; a pair begun: the law's begun (walk). -/
import Derived.Test.YtifoijbpbigaaaaGreatDoorFRcI
import Derived.Test.YtifoijbpbigaaaaGreatDoorFRcK
set_option linter.unusedVariables false
set_option linter.unusedSimpArgs false
namespace Go.Proofs.YtifoijbpbigaaaaGreatDoor
section
open Go Go.RowKit Go.Sort
section
theorem PrS.ch {LO : Nat} {q : Pr} {w w' : World} {O : Nat -> Prop} (h : PrS LO q w) (c : Ch O w w') (dis : ∀ g, q.O g -> ¬ O g) (nc : ∀ g, O g -> ¬ Typ w g 58) : PrS LO q w' := by
 have k : ∀ g, q.O g -> w'.heap[g]? = w.heap[g]? := fun g o => c.same g (h.lo o).2 (dis g o)
 have kc : ∀ b, Typ w b 58 -> w'.heap[b]? = w.heap[b]? := fun b t => by
  obtain ⟨_, _, hh⟩ := id t
  exact c.same b (qE hh) (fun o => nc b o t)
 refine ⟨(k _ (Or.inl rfl)).trans h.bx, ⟨(k _ (Or.inr (Or.inl rfl))).trans h.wr.own, fun z => ⟨(h.wr.last z).1, (h.wr.last z).2.one (fun a e => kc _ (h.la z a e))⟩, h.wr.tx, h.wr.tt⟩, ⟨(k _ (Or.inr (Or.inr (Or.inl rfl)))).trans h.rf.own, fun z => ⟨(h.rf.last z).1, fun ne => ((h.rf.last z).2 ne).one (fun a e => by
  have t := (h.rf.last z).2 ne
  rw [e] at t
  exact kc _ t.typ)⟩, h.rf.col, h.rf.tx, h.rf.tt⟩, zO h.told (fun g e => k g (Or.inr (Or.inr (Or.inr (Or.inl e))))), zO h.want (fun g e => k g (Or.inr (Or.inr (Or.inr (Or.inr (Or.inl e)))))), fun r hr => ⟨zO (h.rows r hr).1 (fun g e => k g (Or.inr (Or.inr (Or.inr (Or.inr (Or.inr ⟨r, hr, e⟩)))))), (h.rows r hr).2⟩, h.apart, h.lop, h.lopp, h.lorb⟩
theorem PrS.nc {LO : Nat} {q : Pr} {w : World} (h : PrS LO q w) : ∀ g, q.O g -> ¬ Typ w g 58 := fun g o t => by
 obtain ⟨T, t1, t2⟩ := h.typ o
 exact t1.ne t t2 rfl
theorem PrS.low {LO LO' : Nat} {q : Pr} {w : World} (h : PrS LO q w) (l : LO' <= LO) : PrS LO' q w :=
 ⟨h.bx, h.wr, h.rf, je h.told l, je h.want l, fun r hr => ⟨je (h.rows r hr).1 l, (h.rows r hr).2⟩, h.apart, Nat.le_trans l h.lop, Nat.le_trans l h.lopp, Nat.le_trans l h.lorb⟩
def jI : Option Pr -> Value
 | none => .pointer none
 | some q => .pointer (some ⟨q.p, 0, none⟩)
structure Side (LO : Nat) (qa : Option Pr) (n : Nat) (w : World) : Prop where
 at_ : ∀ q, qa = some q -> PrS LO q w /\ q.xp = q.xr /\ q.ws = q.R.map (·.2) /\ q.R.length <= n
structure TwoP (W1 : World) (qa qb : Option Pr) (n m : Nat) (w : World) : Prop where
 a : Side W1.heap.size qa n w
 b : Side W1.heap.size qb m w
 dis : ∀ q q', qa = some q -> qb = some q' -> ∀ g, q.O g -> ¬ q'.O g
 bel : Below W1.heap.size W1 w
theorem TwoP.swap {W1 : World} {qa qb : Option Pr} {n m : Nat} {w : World} (h : TwoP W1 qa qb n m w) : TwoP W1 qb qa m n w :=
 ⟨h.b, h.a, fun q q' e e' g o o' => h.dis q' q e' e g o' o, h.bel⟩
theorem TwoP.act {W1 : World} {q : Pr} {qb : Option Pr} {n m : Nat} {w w' : World} {e : Ending} (h : TwoP W1 (some q) qb n m w) (r : ActR W1.heap.size q w e w') : e = .returned (.bool true) /\ ∃ q', jI (some q') = jI (some q) /\ TwoP W1 (some q') qb (n + 1) m w' := by
 obtain ⟨q', he, h1, h2, h3, h4, h5, h6, h7⟩ := r
 obtain ⟨a1, a2, a3, a4⟩ := h.a.at_ q rfl
 refine ⟨he, q', (by show Value.pointer (some ⟨q'.p, 0, none⟩) = Value.pointer (some ⟨q.p, 0, none⟩); rw [h2]), ⟨fun x ex => ?_⟩, ⟨fun x ex => ?_⟩, fun x y ex ey g o o' => ?_, h6.bel h.bel h.bel.size (fun g o => (a1.lo o).1)⟩
 ·injection ex with ex
  subst ex
  exact ⟨h1, h3, h4, by omega⟩
 ·obtain ⟨b1, b2, b3, b4⟩ := h.b.at_ x ex
  exact ⟨b1.ch h6 (fun g o o' => h.dis q x rfl ex g o' o) a1.nc, b2, b3, b4⟩
 ·injection ex with ex
  subst ex
  rcases h7 g o with z | z
  ·exact h.dis q y rfl ey g z o'
  ·have := ((h.b.at_ y ey).1.lo o').2
   omega
theorem TwoP.fresh {W1 : World} {q : Pr} {qb : Option Pr} {n m : Nat} {w w' : World} (h : TwoP W1 (some q) qb n m w) (c : Ch q.O w w') : TwoP W1 none qb n m w' := by
 obtain ⟨a1, a2, a3, a4⟩ := h.a.at_ q rfl
 refine ⟨⟨fun x ex => by cases ex⟩, ⟨fun x ex => ?_⟩, fun x y ex => (by cases ex), c.bel h.bel h.bel.size (fun g o => (a1.lo o).1)⟩
 obtain ⟨b1, b2, b3, b4⟩ := h.b.at_ x ex
 exact ⟨b1.ch c (fun g o o' => h.dis q x rfl ex g o' o) a1.nc, b2, b3, b4⟩
theorem TwoP.more {W1 : World} {qa qb : Option Pr} {n m n' m' : Nat} {w : World} (h : TwoP W1 qa qb n m w) (hn : n <= n') (hm : m <= m') : TwoP W1 qa qb n' m' w :=
 ⟨⟨fun q e => by obtain ⟨a, b, c, d⟩ := h.a.at_ q e; exact ⟨a, b, c, by omega⟩⟩, ⟨fun q e => by obtain ⟨a, b, c, d⟩ := h.b.at_ q e; exact ⟨a, b, c, by omega⟩⟩, h.dis, h.bel⟩
def newPr (d : Int) (g : Nat) : Pr := ⟨g + 2, g, g + 1, ⟨d, false, ⟨0, 0, [], 0, 0, false⟩, tel0, false⟩, ⟨d, false, ⟨0, 0, [], 0, 0, false⟩, tel0, false⟩, none, 0, none, 0, [], [], none, 0, none, 0⟩
def BegR (d : Int) (w : World) (e : Ending) (w' : World) : Prop :=
 ∃ qa, e = .returned (.tuple #[jI qa, .bool true]) /\ Side w.heap.size qa 0 w' /\ Below w.heap.size w w' /\ (okD d = true -> qa ≠ none)
set_option maxHeartbeats 16000000 in
set_option maxRecDepth 100000 in
theorem Jz (d : Int) (w : World) : Calls Tryz.prog 18 #[.int .i64 d] w (BegR d w) := by
 cases hd : okD d with
 | false =>
  have D1 := Vd (d_New_no d hd w)
  have D2 := Vd (KJ d hd w)
  have FIN : Hid (BegR d w (.returned (.tuple #[.pointer none, .bool true])) w) := Vd ⟨none, rfl, ⟨fun q e => by cases e⟩, Below.refl _ _, fun z => by rw [hd] at z; cases z⟩
  clear hd
  go_enter Tryz.func18, Tryz.ntmps18
  go_wp2_with fail
  refine D1.out.mono ?_; rintro e w1 ⟨rfl, rfl⟩
  go_wp2_with fail
  refine D2.out.mono ?_; rintro e w2 ⟨rfl, rfl⟩
  go_wp2_with fail
  refine bodyPost_ret (v := .tuple #[.pointer none, .bool true]) (by simp [results, Tryz.results18, go_sem]) rfl ?_
  exact FIN.out
 | true =>
  have D1 := Vd (d_New d hd w)
  obtain ⟨V1, hV1⟩ : ∃ V1, V1 = w.alloc (.cells (wriV d false 0 0 none 0 0 0 0 false tel0 false).toArray 86) := ⟨_, rfl⟩
  have B1 : Below w.heap.size w V1 := by rw [hV1]; exact (Below.refl _ w).alloc Vf _
  have Z1 : V1.heap.size = w.heap.size + 1 := by rw [hV1]; simp
  have O1 : Own1 V1 w.heap.size (wriV d false 0 0 none 0 0 0 0 false tel0 false) 86 := by rw [hV1]; exact World.alloc_heap_new w _
  have D2 := Vd (ref_New d hd V1)
  obtain ⟨V2, hV2⟩ : ∃ V2, V2 = V1.alloc (.cells (refV (rfx0 d) tel0 false).toArray 93) := ⟨_, rfl⟩
  have B2 : Below V1.heap.size V1 V2 := by rw [hV2]; exact (Below.refl _ V1).alloc Vf _
  have Z2 : V2.heap.size = w.heap.size + 2 := by rw [hV2]; simp [Z1]
  have O2 : Own1 V2 (w.heap.size + 1) (refV (rfx0 d) tel0 false) 93 := by rw [hV2, <- Z1]; exact World.alloc_heap_new V1 _
  obtain ⟨V3, hV3⟩ : ∃ V3, V3 = V2.alloc (.cells #[.pointer (some ⟨w.heap.size, 0, none⟩), .pointer (some ⟨w.heap.size + 1, 0, none⟩), .slice none 0 0, .slice none 0 0] 78) := ⟨_, rfl⟩
  have B3 : Below V2.heap.size V2 V3 := by rw [hV3]; exact (Below.refl _ V2).alloc Vf _
  have O3 : Own1 V3 (w.heap.size + 2) [.pointer (some ⟨w.heap.size, 0, none⟩), .pointer (some ⟨w.heap.size + 1, 0, none⟩), .slice none 0 0, .slice none 0 0] 78 := by rw [hV3, <- Z2]; exact World.alloc_heap_new V2 _
  have BB : Below w.heap.size w V3 := (B1.trans (B2.mono B1.size)).trans (B3.mono (Nat.le_trans B1.size B2.size))
  have FIN : Hid (BegR d w (.returned (.tuple #[.pointer (some ⟨w.heap.size + 2, 0, none⟩), .bool true])) V3) := Vd ⟨some (newPr d w.heap.size), rfl, ⟨fun q e => by
   injection e with e
   subst e
   refine ⟨⟨O3, ⟨(O1.below B2).below B3, fun z => (by cases z), ⟨(show (0 : Int) <= 0 by decide), (show (0 : Int) <= 5000 by decide)⟩, Nat.zero_le _⟩, ⟨O2.below B3, fun z => (by cases z), ⟨by show zh 0; decide, by show zh 0; decide⟩, ⟨(show (0 : Int) <= 0 by decide), (show (0 : Int) <= 5000 by decide)⟩, Nat.zero_le _⟩, World.ownsRow_nil _ _ _ _, World.ownsRow_nil _ _ _ _, fun r hr => (by cases hr), List.Pairwise.nil, ?_, ?_, ?_⟩, rfl, rfl, Vf⟩
   ·show w.heap.size <= w.heap.size + 2; omega
   ·exact Vf
   ·show w.heap.size <= w.heap.size + 1; omega⟩, BB, fun _ z => by cases z⟩
  have HV1 := Vd hV1
  have HV2 := Vd hV2
  have HV3 := Vd hV3
  have HZ1 := Vd Z1
  have HZ2 := Vd Z2
  clear hd hV1 hV2 hV3 B1 B2 B3 O1 O2 O3 BB Z1 Z2
  go_enter Tryz.func18, Tryz.ntmps18
  go_wp2_with fail
  refine D1.out.mono ?_; rintro e w1 ⟨rfl, hw⟩
  rw [hw, <- HV1.out]
  clear hw D1
  go_wp2_with fail
  refine D2.out.mono ?_; rintro e w2 ⟨rfl, hw⟩
  rw [hw, <- HV2.out, HZ1.out]
  clear hw D2
  go_wp2_with fail
  rw [HZ2.out, <- HV3.out]
  refine bodyPost_ret (v := .tuple #[.pointer (some ⟨w.heap.size + 2, 0, none⟩), .bool true]) (by simp [results, Tryz.results18, go_sem]) rfl ?_
  exact FIN.out
end
end
end Go.Proofs.YtifoijbpbigaaaaGreatDoor
