/- Slices of structs, of bytes and of numbers, opened at the door. -/
import Derived.Test.YtmaofighbpnbiaaGreatDoorYTpP
import Derived.Test.YtmaofighbpnbiaaGreatDoorTaCD
import Derived.Test.YtmaofighbpnbiaaGreatDoorTaCC
import Derived.ProofKit
import Derived.OpenShut
import Derived.ShutString
import Derived.ChangeOld
import Derived.Below
import Derived.Lib.SmallJoins
import Derived.Deep.Strs
import Derived.Deep.Fields
import Derived.SizedLaws
namespace Go.Proofs.YtmaofighbpnbiaaGreatDoor
open Go.ChangeShapes Go.WideShapes Go.ChangeAt Go.RowKit
set_option linter.unusedVariables false
def Light {H : Type} (d : DataW H) (t : TypeId) : Prop := ∀ m ∈ d.weights Tryz.prog t, m ≤ reachBytes
theorem light_each {H : Type} {ts : List TypeId} {ds : List (DataW H)} (h : ∀ m ∈ DataW.weightsEach Tryz.prog ts ds, m ≤ reachBytes) {j : Nat} {t : TypeId} {d : DataW H} (ht : ts[j]? = some t) (hd : ds[j]? = some d) : Light d t :=
 fun m hm => h m (DataW.weights_mem_each ht hd m hm)
theorem light_all {H : Type} {e : TypeId} : ∀ {ds : List (DataW H)}, (∀ m ∈ DataW.weightsAll Tryz.prog e ds, m ≤ reachBytes) → ∀ d ∈ ds, Light d e
 | [], _, d, hd => by cases hd
 | x :: r, h, d, hd => by
  simp only [DataW.weightsAll, List.mem_append] at h
  rcases List.mem_cons.1 hd with rfl | hd
  ·exact fun m hm => h m (Or.inl hm)
  ·exact light_all (fun m hm => h m (Or.inr hm)) d hd
theorem light_struct {H : Type} {t : TypeId} {fs : Array Field} {ds : List (DataW H)} (ht : Tryz.prog.underlying t = some (.struct fs)) (h : Light (.agg ds) t) {j : Nat} {u : TypeId} {d : DataW H} (hu : (fs.toList.map (·.type))[j]? = some u) (hd : ds[j]? = some d) : Light d u := by
 unfold Light at h
 simp only [DataW.weights, ht] at h
 exact light_each h hu hd
theorem light_slice {H : Type} {t e : TypeId} {es rs : List (DataW H)} (ht : Tryz.prog.underlying t = some (.slice e)) (h : Light (.slice es rs) t) : (es.length + rs.length) * Tryz.prog.bytesOf e ≤ reachBytes ∧ ∀ d ∈ es, Light d e := by
 unfold Light at h
 simp only [DataW.weights, ht, List.mem_cons, List.mem_append] at h
 exact ⟨h _ (Or.inl rfl), light_all (fun m hm => h m (Or.inr (Or.inl hm)))⟩
theorem light_string {H : Type} {t : TypeId} {s : ByteArray} (h : Light (.lit (.string s.data.toList) : DataW H) t) : s.size ≤ reachBytes := by
 unfold Light at h
 have := h s.data.toList.length (by simp [DataW.weights])
 have e : s.size = s.data.toList.length := by simp
 omega
theorem light_row {H : Type} {ts : List TypeId} {ds : List (DataW H)} (h : (DataW.weightsEach Tryz.prog ts ds).all (· ≤ reachBytes) = true) {j : Nat} {t : TypeId} {d : DataW H} (ht : ts[j]? = some t) (hd : ds[j]? = some d) : Light d t :=
 fun m hm => by simpa using List.all_eq_true.1 h m (DataW.weights_mem_each ht hd m hm)
theorem flat_at {α : Type} (f : α → List Value) (m : Nat) (m0 : 0 < m) (hm : ∀ a, (f a).length = m) : ∀ (L : List α) (j : Nat) (u : Value), (L.flatMap f)[j]? = some u → ∃ i k a, j = i * m + k ∧ k < m ∧ L[i]? = some a ∧ (f a)[k]? = some u
 | [], j, u, h => by simp at h
 | a :: L, j, u, h => by
  rw [List.flatMap_cons] at h
  by_cases c : j < m
  ·rw [List.getElem?_append_left (by rw [hm]; exact c)] at h
   exact ⟨0, j, a, by omega, c, rfl, h⟩
  ·rw [List.getElem?_append_right (by rw [hm]; omega), hm] at h
   obtain ⟨i, k, b, e, hk, hi, hu⟩ := flat_at f m m0 hm L (j - m) u h
   exact ⟨i + 1, k, b, by rw [Nat.succ_mul]; omega, hk, hi, hu⟩
theorem open_rows {H : Type} {enc : TypeId × Value → H} {w : World} {base : Nat} {spare : Nat → Bool} {held : Bool} {α : Type} (f : α → List Value) (m : Nat) (m0 : 0 < m) (hm : ∀ a, (f a).length = m) (dflt : α) (ok : α → Prop) {t e : TypeId} (ht : Tryz.prog.underlying t = some (.slice e)) (hC : Tryz.prog.cellsOf e = m)
  (each : ∀ (n : Nat) (cs : List Value) (y : DataW H × List MemPlace), DataW.trod enc Tryz.prog w base spare held n e cs = some y → Light y.1 e → ∃ a, cs = f a ∧ ok a)
  {fuel : Nat} {cs : List Value} {y : DataW H × List MemPlace} (h : DataW.trod enc Tryz.prog w base spare held fuel t cs = some y) (sp : ∀ b, spare b = true) (hw : Light y.1 t) :
  ∃ (A : Option Addr) (c : Nat) (L : List α), cs = [.slice A L.length c] ∧ (A = none → c = 0) ∧ L.length ≤ c ∧ c * Tryz.prog.bytesOf e ≤ reachBytes ∧ Sees w w.heap.size A (L.flatMap f) ∧ ∀ x ∈ L, ok x := by
 rcases DataW.trod_slice ht h with ⟨h0, _⟩ | ⟨a, len, cap, elems, rest, n, _, rfl, hx, hb, hl, hcm, hlen, hel, hsp, hns⟩
 ·exact ⟨none, 0, [], h0, fun _ => rfl, Nat.le_refl _, by rw [Nat.zero_mul]; exact Nat.zero_le _, Sees.nil _ _ _, fun x hx => by cases hx⟩
 ·rw [hx] at hw
  obtain ⟨w1, w2⟩ := light_slice ht hw
  have hr := (hsp (sp _)).1
  have E : ∀ i, i < len → ∃ x, (∀ k u, (f x)[k]? = some u → w.cell? (a.add (i * m + k)) = some u) ∧ ok x := by
   intro i hi
   have hy := hel i hi
   have hi2 : i < elems.length := by omega
   rw [List.getElem?_eq_getElem hi2, hC, Option.bind_eq_some_iff] at hy
   obtain ⟨cs', hcs, hy'⟩ := hy
   obtain ⟨x, rfl, hok⟩ := each n cs' _ hy' (w2 _ (List.mem_map.2 ⟨_, List.getElem_mem hi2, rfl⟩))
   refine ⟨x, fun k u hu => ?_, hok⟩
   have lt : k < m := by rw [← hm x]; exact (List.getElem?_eq_some_iff.1 hu).1
   have := (World.cells?_some hcs).2.2 k lt
   rw [add_plus] at this
   exact this.trans hu
  have hN : ((List.range len).map fun i => if h : i < len then (E i h).choose else dflt).length = len := by simp
  have hAt : ∀ i x, ((List.range len).map fun i => if h : i < len then (E i h).choose else dflt)[i]? = some x → (∀ k u, (f x)[k]? = some u → w.cell? (a.add (i * m + k)) = some u) ∧ ok x := by
   intro i x hi
   rw [List.getElem?_map] at hi
   obtain ⟨j, hj, rfl⟩ := Option.map_eq_some_iff.1 hi
   obtain ⟨lt, e2⟩ := List.getElem?_eq_some_iff.1 hj
   rw [List.length_range] at lt
   rw [List.getElem_range] at e2
   subst e2
   simp only [dif_pos lt]
   exact (E i lt).choose_spec
  refine ⟨some a, cap, (List.range len).map (fun i => if h : i < len then (E i h).choose else dflt), by rw [hN], (fun z => by cases z), by rw [hN]; exact hl, ?_, ?_, ?_⟩
  ·simp only [List.length_map] at w1
   rw [hlen, hr] at w1
   rw [show len + (cap - len) = cap by omega] at w1
   exact w1
  ·have key : ∀ j u, (((List.range len).map fun i => if h : i < len then (E i h).choose else dflt).flatMap f)[j]? = some u → w.cell? (a.add j) = some u := by
    intro j u hj
    obtain ⟨i, k, x, rfl, hk, hi, hu⟩ := flat_at f m m0 hm _ j u hj
    exact (hAt i x hi).1 k u hu
   intro hne
   refine ⟨a, rfl, ?_, key⟩
   obtain ⟨u, r, hur⟩ := List.exists_cons_of_ne_nil hne
   have := block_lt_of_cell (key 0 u (by rw [hur]; rfl))
   rw [add_blk] at this
   exact this
  ·intro x hx
   obtain ⟨i, hi⟩ := List.mem_iff_getElem?.1 hx
   exact (hAt i x hi).2
section
variable {H : Type} {enc : TypeId × Value → H} {w : World} {base : Nat} {spare : Nat → Bool} {held : Bool}
theorem flat_one (k : IntKind) (L : List Int) : L.flatMap (fun n => [Value.int k n]) = L.map (Value.int k) := by
 induction L with
 | nil => rfl
 | cons a l ih => rw [List.flatMap_cons, ih]; rfl
structure BA where
 A : Option Addr
 c : Nat
 bs : List Int
structure ByteD (w : World) (B : Nat) (x : BA) : Prop where
 nil : x.A = none → x.c = 0
 cap : x.bs.length ≤ x.c
 sz : x.bs.length ≤ 140737488355328
 sees : Sees w B x.A (x.bs.map (.int .u8))
 rng : ∀ b ∈ x.bs, 0 ≤ b ∧ b < 256
set_option maxRecDepth 100000 in
theorem open_u8s {n : Nat} {cs : List Value} {y : DataW H × List MemPlace} (h : DataW.trod enc Tryz.prog w base spare held n 27 cs = some y) (sp : ∀ b, spare b = true) (hw : Light y.1 27) : ∃ x : BA, cs = [.slice x.A x.bs.length x.c] ∧ ByteD w w.heap.size x := by
 have cb : Tryz.prog.bytesOf 5 = 1 := by kernel_rfl
 obtain ⟨A, c, L, h1, h2, h3, h4, h5, h6⟩ := open_rows (fun n => [Value.int .u8 n]) 1 (by decide) (fun _ => rfl) (0 : Int) (fun b => 0 ≤ b ∧ b < 256) Tryz.underlying27 (by kernel_rfl) (fun n cs y h _ => by
  obtain ⟨b, e, _, wf⟩ := DataW.trod_int Tryz.underlying5 h
  have := bounds_u8 wf
  exact ⟨b, e, by omega⟩) h sp hw
 rw [cb] at h4
 rw [flat_one] at h5
 exact ⟨⟨A, c, L⟩, h1, h2, h3, by unfold reachBytes at h4; show L.length ≤ _; omega, h5, h6⟩
end
section
variable {w w' : World}
theorem ByteD.below {B n : Nat} {x : BA} (h : ByteD w B x) (hb : Below n w w') (hB : B ≤ n) : ByteD w' B x := ⟨h.nil, h.cap, h.sz, h.sees.below hb hB, h.rng⟩
theorem ByteD.more {B B' : Nat} {x : BA} (h : ByteD w B x) (hB : B ≤ B') : ByteD w B' x := ⟨h.nil, h.cap, h.sz, h.sees.more hB, h.rng⟩
structure FA where
 at_ : Int
 b : BA
def FA.frm (x : FA) : Frm := ⟨x.at_, x.b.bs⟩
def frV (x : FA) : List Value := [.int .i64 x.at_, .slice x.b.A x.b.bs.length x.b.c]
structure FrD (w : World) (B : Nat) (x : FA) : Prop where
 b : ByteD w B x.b
 rng : -9223372036854775808 ≤ x.at_ ∧ x.at_ ≤ 9223372036854775807
theorem FrD.below {B n : Nat} {x : FA} (h : FrD w B x) (hb : Below n w w') (hB : B ≤ n) : FrD w' B x := ⟨h.b.below hb hB, h.rng⟩
theorem FrD.more {B B' : Nat} {x : FA} (h : FrD w B x) (hB : B ≤ B') : FrD w B' x := ⟨h.b.more hB, h.rng⟩
structure FrsD (w : World) (B : Nat) (A : Option Addr) (c : Nat) (L : List FA) : Prop where
 nil : A = none → c = 0
 cap : L.length ≤ c
 sz : L.length * 32 ≤ 140737488355328
 sees : Sees w B A (L.flatMap frV)
 ok : ∀ x ∈ L, FrD w B x
theorem FrsD.below {B n : Nat} {A : Option Addr} {c : Nat} {L : List FA} (h : FrsD w B A c L) (hb : Below n w w') (hB : B ≤ n) : FrsD w' B A c L := ⟨h.nil, h.cap, h.sz, h.sees.below hb hB, fun x m => (h.ok x m).below hb hB⟩
theorem FrsD.more {B B' : Nat} {A : Option Addr} {c : Nat} {L : List FA} (h : FrsD w B A c L) (hB : B ≤ B') : FrsD w B' A c L := ⟨h.nil, h.cap, h.sz, h.sees.more hB, fun x m => (h.ok x m).more hB⟩
theorem fr_nth : ∀ (L : List FA) (i : Nat) (h : i < L.length), (L.flatMap frV)[i * 2]? = some (.int .i64 (L[i]).at_) ∧ (L.flatMap frV)[i * 2 + 1]? = some (.slice (L[i]).b.A (L[i]).b.bs.length (L[i]).b.c)
 | [], i, h => by cases h
 | p :: l, 0, _ => ⟨rfl, rfl⟩
 | p :: l, i + 1, h => by
  have ih := fr_nth l i (by simpa using h)
  have e : (p :: l).flatMap frV = .int .i64 p.at_ :: .slice p.b.A p.b.bs.length p.b.c :: l.flatMap frV := rfl
  rw [e, show (i + 1) * 2 = i * 2 + 1 + 1 by omega]
  simpa using ih
theorem FrsD.at {B : Nat} {A : Option Addr} {c : Nat} {L : List FA} (h : FrsD w B A c L) (i : Nat) (hi : i < L.length) : ∃ ad, A = some ad ∧ ad.block < B ∧ w.cell? (ad.add (i * 2)) = some (.int .i64 (L[i]).at_) ∧ w.cell? ⟨(ad.add (i * 2)).block, (ad.add (i * 2)).off + 1, none⟩ = some (.slice (L[i]).b.A (L[i]).b.bs.length (L[i]).b.c) := by
 have n := fr_nth L i hi
 obtain ⟨ad, e, hb, hc⟩ := h.sees (fun e => by rw [e] at n; simp at n)
 refine ⟨ad, e, hb, hc _ _ n.1, ?_⟩
 rw [add_ltt (ad.add (i * 2)) 1 (by decide), add_plus]
 exact hc _ _ n.2
end
end Go.Proofs.YtmaofighbpnbiaaGreatDoor
