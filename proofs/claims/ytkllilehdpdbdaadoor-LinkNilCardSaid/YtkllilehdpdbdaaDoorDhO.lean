/- Cells, screens and calls on a writer, opened at the door. -/
import Derived.Test.YtkllilehdpdbdaaDoorDhB
import Derived.ProofKit
import Derived.OpenShut
import Derived.ShutString
import Derived.ChangeOld
import Derived.Below
import Derived.Lib.SmallJoins
import Derived.Deep.Strs
import Derived.Deep.Fields
import Derived.SizedLaws
namespace Go.Proofs.YtkllilehdpdbdaaDoor
open Go.ChangeShapes Go.WideShapes Go.ChangeAt Go.RowKit
set_option linter.unusedVariables false

/-- no string and no slice of a datum is too large -/
def Light {H : Type} (d : DataW H) (t : TypeId) : Prop := ∀ m ∈ d.weights Tryd.prog t, m ≤ reachBytes

theorem light_each {H : Type} {ts : List TypeId} {ds : List (DataW H)} (h : ∀ m ∈ DataW.weightsEach Tryd.prog ts ds, m ≤ reachBytes) {j : Nat} {t : TypeId} {d : DataW H} (ht : ts[j]? = some t) (hd : ds[j]? = some d) : Light d t :=
  fun m hm => h m (DataW.weights_mem_each ht hd m hm)
theorem light_all {H : Type} {e : TypeId} : ∀ {ds : List (DataW H)}, (∀ m ∈ DataW.weightsAll Tryd.prog e ds, m ≤ reachBytes) → ∀ d ∈ ds, Light d e
  | [], _, d, hd => by cases hd
  | x :: r, h, d, hd => by
    simp only [DataW.weightsAll, List.mem_append] at h
    rcases List.mem_cons.1 hd with rfl | hd
    · exact fun m hm => h m (Or.inl hm)
    · exact light_all (fun m hm => h m (Or.inr hm)) d hd
theorem light_struct {H : Type} {t : TypeId} {fs : Array Field} {ds : List (DataW H)} (ht : Tryd.prog.underlying t = some (.struct fs)) (h : Light (.agg ds) t) {j : Nat} {u : TypeId} {d : DataW H} (hu : (fs.toList.map (·.type))[j]? = some u) (hd : ds[j]? = some d) : Light d u := by
  unfold Light at h
  simp only [DataW.weights, ht] at h
  exact light_each h hu hd
theorem light_slice {H : Type} {t e : TypeId} {es rs : List (DataW H)} (ht : Tryd.prog.underlying t = some (.slice e)) (h : Light (.slice es rs) t) : (es.length + rs.length) * Tryd.prog.bytesOf e ≤ reachBytes ∧ ∀ d ∈ es, Light d e := by
  unfold Light at h
  simp only [DataW.weights, ht, List.mem_cons, List.mem_append] at h
  exact ⟨h _ (Or.inl rfl), light_all (fun m hm => h m (Or.inr (Or.inl hm)))⟩
theorem light_string {H : Type} {t : TypeId} {s : ByteArray} (h : Light (.lit (.string s.data.toList) : DataW H) t) : s.size ≤ reachBytes := by
  unfold Light at h
  have := h s.data.toList.length (by simp [DataW.weights])
  have e : s.size = s.data.toList.length := by simp
  omega
theorem light_row {H : Type} {ts : List TypeId} {ds : List (DataW H)} (h : (DataW.weightsEach Tryd.prog ts ds).all (· ≤ reachBytes) = true) {j : Nat} {t : TypeId} {d : DataW H} (ht : ts[j]? = some t) (hd : ds[j]? = some d) : Light d t :=
  fun m hm => by simpa using List.all_eq_true.1 h m (DataW.weights_mem_each ht hd m hm)

section
variable {H : Type} {enc : TypeId × Value → H} {w : World} {base : Nat} {spare : Nat → Bool} {held : Bool}

def okT (c : Cel) : Prop := c.text.size ≤ 140737488351232 ∧ -128 ≤ c.wide ∧ c.wide ≤ 127

set_option maxRecDepth 100000 in
theorem open_sty {n : Nat} {cs : List Value} {y : DataW H × List MemPlace} (h : DataW.trod enc Tryd.prog w base spare held n 49 cs = some y) : ∃ s : Sty, cs = [.int .i32 s.fg, .int .i32 s.bg, .int .u8 (bI s.at_)] := by
  obtain ⟨y0, y1, y2, m, _, hl, h0, h1, h2⟩ := Go.Deep.trod_struct3 Tryd.underlying49 h
  have c3 : Tryd.prog.cellsOf 49 = 3 := by kernel_rfl
  have e1 : Tryd.prog.cellsOf 47 = 1 := by kernel_rfl
  have e2 : Tryd.prog.cellsOf 5 = 1 := by kernel_rfl
  rw [c3] at hl
  obtain ⟨v0, v1, v2, rfl⟩ : ∃ a b c, cs = [a, b, c] := by
    match cs, hl with
    | [v0, v1, v2], _ => exact ⟨v0, v1, v2, rfl⟩
  simp [e1, e2] at h0 h1 h2
  obtain ⟨fg, e, _, _⟩ := DataW.trod_int Tryd.underlying47 h0
  obtain rfl := (List.cons.inj e).1
  obtain ⟨bg, e, _, _⟩ := DataW.trod_int Tryd.underlying47 h1
  obtain rfl := (List.cons.inj e).1
  obtain ⟨ad, e, _, wa⟩ := DataW.trod_int Tryd.underlying5 h2
  obtain rfl := (List.cons.inj e).1
  obtain ⟨ba, rfl⟩ : ∃ b : B8, ad = bI b := by
    have bw := bounds_u8 wa
    obtain ⟨b, hb⟩ := bI_of ad (by omega) (by omega)
    exact ⟨b, hb.symm⟩
  exact ⟨⟨fg, bg, ba⟩, rfl⟩

set_option maxRecDepth 100000 in
theorem open_cel {n : Nat} {cs : List Value} {y : DataW H × List MemPlace} (h : DataW.trod enc Tryd.prog w base spare held n 51 cs = some y) (hw : Light y.1 51) : ∃ c : Cel, cs = celV c ∧ okT c := by
  obtain ⟨y0, y1, y2, m, rfl, hl, h0, h1, h2⟩ := Go.Deep.trod_struct3 Tryd.underlying51 h
  have c5 : Tryd.prog.cellsOf 51 = 5 := by kernel_rfl
  have e1 : Tryd.prog.cellsOf 9 = 1 := by kernel_rfl
  have e2 : Tryd.prog.cellsOf 46 = 1 := by kernel_rfl
  have e3 : Tryd.prog.cellsOf 49 = 3 := by kernel_rfl
  rw [c5] at hl
  obtain ⟨v0, v1, v2, v3, v4, rfl⟩ : ∃ a b c d e, cs = [a, b, c, d, e] := by
    match cs, hl with
    | [v0, v1, v2, v3, v4], _ => exact ⟨v0, v1, v2, v3, v4, rfl⟩
  simp [e1, e2, e3] at h0 h1 h2
  obtain ⟨tx, e, hy, _⟩ := DataW.trod_string Tryd.underlying9 h0
  obtain rfl := (List.cons.inj e).1
  obtain ⟨wd, e, _, wf⟩ := DataW.trod_int Tryd.underlying46 h1
  obtain rfl := (List.cons.inj e).1
  obtain ⟨s, e⟩ := open_sty h2
  have l0 : Light y0.1 9 := light_struct (j := 0) Tryd.underlying51 hw rfl rfl
  rw [hy] at l0
  have sz := light_string l0
  have bw := bounds_i8 wf
  refine ⟨⟨tx, wd, s⟩, ?_, by show tx.size ≤ _; unfold reachBytes at sz; omega, bw.1, by show wd ≤ 127; omega⟩
  simp only [List.cons.injEq, and_true] at e
  obtain ⟨rfl, rfl, rfl⟩ := e
  rfl
end
theorem flat_at {α : Type} (f : α → List Value) (m : Nat) (m0 : 0 < m) (hm : ∀ a, (f a).length = m) : ∀ (L : List α) (j : Nat) (u : Value), (L.flatMap f)[j]? = some u → ∃ i k a, j = i * m + k ∧ k < m ∧ L[i]? = some a ∧ (f a)[k]? = some u
  | [], j, u, h => by simp at h
  | a :: L, j, u, h => by
    rw [List.flatMap_cons] at h
    by_cases c : j < m
    · rw [List.getElem?_append_left (by rw [hm]; exact c)] at h
      exact ⟨0, j, a, by omega, c, rfl, h⟩
    · rw [List.getElem?_append_right (by rw [hm]; omega), hm] at h
      obtain ⟨i, k, b, e, hk, hi, hu⟩ := flat_at f m m0 hm L (j - m) u h
      exact ⟨i + 1, k, b, by rw [Nat.succ_mul]; omega, hk, hi, hu⟩
/-- a slice of structs of m cells each -/
theorem open_rows {H : Type} {enc : TypeId × Value → H} {w : World} {base : Nat} {spare : Nat → Bool} {held : Bool} {α : Type} (f : α → List Value) (m : Nat) (m0 : 0 < m) (hm : ∀ a, (f a).length = m) (dflt : α) (ok : α → Prop) {t e : TypeId} (ht : Tryd.prog.underlying t = some (.slice e)) (hC : Tryd.prog.cellsOf e = m)
    (each : ∀ (n : Nat) (cs : List Value) (y : DataW H × List MemPlace), DataW.trod enc Tryd.prog w base spare held n e cs = some y → Light y.1 e → ∃ a, cs = f a ∧ ok a)
    {fuel : Nat} {cs : List Value} {y : DataW H × List MemPlace} (h : DataW.trod enc Tryd.prog w base spare held fuel t cs = some y) (sp : ∀ b, spare b = true) (hw : Light y.1 t) :
    ∃ (A : Option Addr) (c : Nat) (L : List α), cs = [.slice A L.length c] ∧ (A = none → c = 0) ∧ L.length ≤ c ∧ c * Tryd.prog.bytesOf e ≤ reachBytes ∧ Sees w w.heap.size A (L.flatMap f) ∧ ∀ x ∈ L, ok x := by
  rcases DataW.trod_slice ht h with ⟨h0, _⟩ | ⟨a, len, cap, elems, rest, n, _, rfl, hx, hb, hl, hcm, hlen, hel, hsp, hns⟩
  · exact ⟨none, 0, [], h0, fun _ => rfl, Nat.le_refl _, by rw [Nat.zero_mul]; exact Nat.zero_le _, Sees.nil _ _ _, fun x hx => by cases hx⟩
  · rw [hx] at hw
    obtain ⟨w1, w2⟩ := light_slice ht hw
    have hr := (hsp (sp _)).1
    have E : ∀ i, i < len → ∃ x, (∀ k u, (f x)[k]? = some u → w.cell? (a.add (i * m + k)) = some u) ∧ ok x := by
      intro i hi
      have hy := hel i hi
      have hi2 : i < elems.length := by omega
      rw [List.getElem?_eq_getElem hi2, hC, Option.bind_eq_some_iff] at hy
      obtain ⟨cs', hcs, hy'⟩ := hy
      obtain ⟨x, rfl, hok⟩ := each n cs' _ hy' (w2 _ (List.mem_map.2 ⟨_, List.getElem_mem hi2, rfl⟩))
      refine ⟨x, fun k u hu => ?_, hok⟩
      have lt : k < m := by rw [← hm x]; exact (List.getElem?_eq_some_iff.1 hu).1
      have := (World.cells?_some hcs).2.2 k lt
      rw [add_plus] at this
      exact this.trans hu
    have hN : ((List.range len).map fun i => if h : i < len then (E i h).choose else dflt).length = len := by simp
    have hAt : ∀ i x, ((List.range len).map fun i => if h : i < len then (E i h).choose else dflt)[i]? = some x → (∀ k u, (f x)[k]? = some u → w.cell? (a.add (i * m + k)) = some u) ∧ ok x := by
      intro i x hi
      rw [List.getElem?_map] at hi
      obtain ⟨j, hj, rfl⟩ := Option.map_eq_some_iff.1 hi
      obtain ⟨lt, e2⟩ := List.getElem?_eq_some_iff.1 hj
      rw [List.length_range] at lt
      rw [List.getElem_range] at e2
      subst e2
      simp only [dif_pos lt]
      exact (E i lt).choose_spec
    refine ⟨some a, cap, (List.range len).map (fun i => if h : i < len then (E i h).choose else dflt), by rw [hN], (fun z => by cases z), by rw [hN]; exact hl, ?_, ?_, ?_⟩
    · simp only [List.length_map] at w1
      rw [hlen, hr] at w1
      rw [show len + (cap - len) = cap by omega] at w1
      exact w1
    · have key : ∀ j u, (((List.range len).map fun i => if h : i < len then (E i h).choose else dflt).flatMap f)[j]? = some u → w.cell? (a.add j) = some u := by
        intro j u hj
        obtain ⟨i, k, x, rfl, hk, hi, hu⟩ := flat_at f m m0 hm _ j u hj
        exact (hAt i x hi).1 k u hu
      intro hne
      refine ⟨a, rfl, ?_, key⟩
      obtain ⟨u, r, hur⟩ := List.exists_cons_of_ne_nil hne
      have := block_lt_of_cell (key 0 u (by rw [hur]; rfl))
      rw [add_blk] at this
      exact this
    · intro x hx
      obtain ⟨i, hi⟩ := List.mem_iff_getElem?.1 hx
      exact (hAt i x hi).2

def emptyC : Cel := ⟨⟨#[]⟩, 0, plainS⟩
def emptyS : SA := ⟨⟨0, 0, [], 0, 0, false⟩, none, 0⟩
/-- a screen at the door -/
structure ScrD (w : World) (t : SA) : Prop where
  nil : t.A = none → t.c = 0
  cap : t.s.cells.length ≤ t.c
  sz : t.c * 32 ≤ 140737488351232
  sees : Sees w w.heap.size t.A (celsV t.s.cells)
  ok : ∀ x ∈ t.s.cells, okT x

section
variable {H : Type} {enc : TypeId × Value → H} {w : World} {base : Nat} {spare : Nat → Bool} {held : Bool}
set_option maxRecDepth 100000 in
theorem open_cels {n : Nat} {cs : List Value} {y : DataW H × List MemPlace} (h : DataW.trod enc Tryd.prog w base spare held n 22 cs = some y) (sp : ∀ b, spare b = true) (hw : Light y.1 22) :
    ∃ (A : Option Addr) (c : Nat) (L : List Cel), cs = [.slice A L.length c] ∧ (A = none → c = 0) ∧ L.length ≤ c ∧ c * 32 ≤ 140737488351232 ∧ Sees w w.heap.size A (celsV L) ∧ ∀ x ∈ L, okT x := by
  have cb : Tryd.prog.bytesOf 51 = 32 := by kernel_rfl
  obtain ⟨A, c, L, h1, h2, h3, h4, h5, h6⟩ := open_rows celV 5 (by decide) (fun _ => rfl) emptyC okT Tryd.underlying22 (by kernel_rfl) (fun n cs y => open_cel) h sp hw
  rw [cb] at h4
  exact ⟨A, c, L, h1, h2, h3, by unfold reachBytes at h4; omega, h5, h6⟩

set_option maxRecDepth 100000 in
theorem open_scr {n : Nat} {cs : List Value} {y : DataW H × List MemPlace} (h : DataW.trod enc Tryd.prog w base spare held n 24 cs = some y) (sp : ∀ b, spare b = true) (hw : Light y.1 24) : ∃ t : SA, cs = scrC t ∧ ScrD w t := by
  obtain ⟨xs, m, _, hx, hl, hlen, hf⟩ := DataW.trod_struct Tryd.underlying24 h
  have c6 : Tryd.prog.cellsOf 24 = 6 := by kernel_rfl
  have e1 : Tryd.prog.cellsOf 3 = 1 := by kernel_rfl
  have e2 : Tryd.prog.cellsOf 22 = 1 := by kernel_rfl
  have e3 : Tryd.prog.cellsOf 4 = 1 := by kernel_rfl
  rw [c6] at hl
  rw [hx] at hw
  match cs, hl, xs, hlen with
  | [v0, v1, v2, v3, v4, v5], _, [y0, y1, y2, y3, y4, y5], _ =>
    have h0 := hf 0 _ rfl
    have h1 := hf 1 _ rfl
    have h2 := hf 2 _ rfl
    have h3 := hf 3 _ rfl
    have h4 := hf 4 _ rfl
    have h5 := hf 5 _ rfl
    simp [e1, e2, e3] at h0 h1 h2 h3 h4 h5
    obtain ⟨a0, e, _, _⟩ := DataW.trod_int Tryd.underlying3 h0
    obtain rfl := (List.cons.inj e).1
    obtain ⟨a1, e, _, _⟩ := DataW.trod_int Tryd.underlying3 h1
    obtain rfl := (List.cons.inj e).1
    have l2 : Light y2.1 22 := light_struct (j := 2) Tryd.underlying24 hw rfl rfl
    obtain ⟨A, c, L, e, q1, q2, q3, q4, q5⟩ := open_cels h2 sp l2
    obtain rfl := (List.cons.inj e).1
    obtain ⟨a3, e, _, _⟩ := DataW.trod_int Tryd.underlying3 h3
    obtain rfl := (List.cons.inj e).1
    obtain ⟨a4, e, _, _⟩ := DataW.trod_int Tryd.underlying3 h4
    obtain rfl := (List.cons.inj e).1
    obtain ⟨a5, e, _⟩ := DataW.trod_bool Tryd.underlying4 h5
    obtain rfl := (List.cons.inj e).1
    exact ⟨⟨⟨a0, a1, L, a3, a4, a5⟩, A, c⟩, rfl, q1, q2, q3, q4, q5⟩
end
/-- one call on a writer: a reset ahead or not, and the screen -/
def actV (a : Bool × SA) : List Value := .bool a.1 :: scrC a.2
section
variable {H : Type} {enc : TypeId × Value → H} {w : World} {base : Nat} {spare : Nat → Bool} {held : Bool}
end
end Go.Proofs.YtkllilehdpdbdaaDoor
