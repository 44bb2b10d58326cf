/- A slice of patches, opened at the door. -/
import Derived.Test.YthcdcbibbfdjmaaDoorStyOw
import Derived.Test.YthcdcbibbfdjmaaDoorDoorS
import Derived.ProofKit
import Derived.OpenShut
import Derived.ShutString
import Derived.ChangeOld
import Derived.Below
import Derived.Lib.SmallJoins
namespace Go.Proofs.YthcdcbibbfdjmaaDoor
open Go.ChangeShapes Go.WideShapes Go.ChangeAt Go.RowKit
set_option linter.unusedVariables false

set_option maxRecDepth 100000 in
theorem open_pat {H : Type} {enc : TypeId × Value → H} {w : World} {base : Nat} {spare : Nat → Bool} {held : Bool} {n : Nat} {cs : List Value} {y : DataW H × List MemPlace}
    (h : DataW.trod enc Tryd.prog w base spare held n 36 cs = some y) : ∃ p : Pat, cs = patL p ∧ col32 p.fg ∧ col32 p.bg := by
  obtain ⟨y0, y1, y2, y3, m, hx, hl, h0, h1, h2, h3⟩ := Joins.trod_struct4 Tryd.underlying36 h
  have c4 : Tryd.prog.cellsOf 36 = 4 := by kernel_rfl
  have e1 : Tryd.prog.cellsOf 22 = 1 := by kernel_rfl
  have e2 : Tryd.prog.cellsOf 5 = 1 := by kernel_rfl
  rw [c4] at hl
  obtain ⟨v0, v1, v2, v3, rfl⟩ : ∃ a b c d, cs = [a, b, c, d] := by
    match cs, hl with
    | [v0, v1, v2, v3], _ => exact ⟨v0, v1, v2, v3, rfl⟩
  · simp [e1, e2] at h0 h1 h2 h3
    obtain ⟨fg, e, _, wf⟩ := DataW.trod_int Tryd.underlying22 h0
    obtain rfl := (List.cons.inj e).1
    obtain ⟨bg, e, _, wb⟩ := DataW.trod_int Tryd.underlying22 h1
    obtain rfl := (List.cons.inj e).1
    obtain ⟨ad, e, _, wa⟩ := DataW.trod_int Tryd.underlying5 h2
    obtain rfl := (List.cons.inj e).1
    obtain ⟨dr, e, _, wd⟩ := DataW.trod_int Tryd.underlying5 h3
    obtain rfl := (List.cons.inj e).1
    obtain ⟨ba, rfl⟩ : ∃ b : B8, ad = bI b := by
      have bw := bounds_u8 wa
      obtain ⟨b, hb⟩ := bI_of ad (by omega) (by omega)
      exact ⟨b, hb.symm⟩
    obtain ⟨bd, rfl⟩ : ∃ b : B8, dr = bI b := by
      have bw := bounds_u8 wd
      obtain ⟨b, hb⟩ := bI_of dr (by omega) (by omega)
      exact ⟨b, hb.symm⟩
    exact ⟨⟨fg, bg, ba, bd⟩, rfl, bounds_i32 wf, bounds_i32 wb⟩

set_option maxRecDepth 100000 in
theorem open_pats {H : Type} {enc : TypeId × Value → H} {w : World} {base : Nat} {spare : Nat → Bool} {held : Bool} {fuel : Nat} {cs : List Value} {d : DataW H} {pl : List MemPlace}
    (h : DataW.trod enc Tryd.prog w base spare held fuel 43 cs = some (d, pl)) (sp : ∀ b, spare b = true) :
    cs = [.slice none 0 0] ∨ ∃ (a : Addr) (len cap : Nat) (ps : List Pat) (es rs : List (DataW H)), cs = [.slice (some a) len cap] ∧ len ≤ cap ∧ d = .slice es rs ∧ es.length + rs.length = cap ∧ ps.length = len ∧
      (∀ j p, ps[j]? = some p → ∀ i u, (patL p)[i]? = some u → w.cell? (a.add (j * 4 + i)) = some u) ∧ ∀ p ∈ ps, col32 p.fg ∧ col32 p.bg := by
  rcases DataW.trod_slice Tryd.underlying43 h with ⟨h0, _⟩ | ⟨a, len, cap, elems, rest, n, _, rfl, hx, hb, hl, hm, hlen, hel, hsp, hns⟩
  · exact Or.inl h0
  right
  have hd : d = .slice (elems.map (·.1)) (rest.map (·.1)) := congrArg Prod.fst hx
  have c4 : Tryd.prog.cellsOf 36 = 4 := by kernel_rfl
  have each : ∀ i, i < len → ∃ p : Pat, (∀ k u, (patL p)[k]? = some u → w.cell? (a.add (i * 4 + k)) = some u) ∧ col32 p.fg ∧ col32 p.bg := by
    intro i hi
    have hy := hel i hi
    rw [List.getElem?_eq_getElem (by omega), c4, Option.bind_eq_some_iff] at hy
    obtain ⟨cs', hcs, hy'⟩ := hy
    obtain ⟨p, rfl, h1, h2⟩ := open_pat hy'
    refine ⟨p, fun k u hu => ?_, h1, h2⟩
    have lt : k < 4 := (List.getElem?_eq_some_iff.1 hu).1
    have := (World.cells?_some hcs).2.2 k lt
    rw [add_plus] at this
    exact this.trans hu
  refine ⟨a, len, cap, (List.range len).map (fun i => if h : i < len then (each i h).choose else emptyP), elems.map (·.1), rest.map (·.1), rfl, hl, hd, ?_, by simp, ?_, ?_⟩
  · rw [List.length_map, List.length_map, (hsp (sp _)).1, hlen]; omega
  · intro j p hj
    rw [List.getElem?_map] at hj
    obtain ⟨i, hi, rfl⟩ := Option.map_eq_some_iff.1 hj
    obtain ⟨lt, e⟩ := List.getElem?_eq_some_iff.1 hi
    rw [List.length_range] at lt
    rw [List.getElem_range] at e
    subst e
    simp only [dif_pos lt]
    exact (each j lt).choose_spec.1
  · intro p hp
    obtain ⟨i, hi, rfl⟩ := List.mem_map.1 hp
    have lt := List.mem_range.1 hi
    simp only [dif_pos lt]
    exact (each i lt).choose_spec.2
end Go.Proofs.YthcdcbibbfdjmaaDoor
