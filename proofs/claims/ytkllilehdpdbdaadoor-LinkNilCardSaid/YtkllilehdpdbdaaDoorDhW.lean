/- The law's own: a screen of one row of letters. -/
import Derived.Test.YtkllilehdpdbdaaDoorDgJf
import Derived.Test.YtkllilehdpdbdaaDoorDgP
import Derived.Test.YtkllilehdpdbdaaDoorDgI
import Derived.Test.YtkllilehdpdbdaaDoorRows
import Derived.ProofKit
import Derived.LaidMore
import Derived.OpenShut
import Derived.MakeChecks
import Derived.Lib.LaidTab
import Derived.Stop.LaidErr
import Derived.Stop.Joined
namespace Go.Proofs.YtkllilehdpdbdaaDoor
open Go Go.RowKit Go.Sort
set_option linter.unusedVariables false
set_option linter.unusedSimpArgs false

def rowC (s : ByteArray) (k : Nat) : List Cel := (List.range k).map fun i => ⟨s.extract i (i + 1), 1, plainS⟩
def rowS (s : ByteArray) : Scr := ⟨s.size, 1, rowC s s.size, 0, 0, false⟩
theorem rowC_len (s : ByteArray) (k : Nat) : (rowC s k).length = k := by simp [rowC]
theorem rowC_succ (s : ByteArray) (k : Nat) : celsV (rowC s (k + 1)) = celsV (rowC s k) ++ [.string (s.extract k (k + 1)), .int .i8 1, .int .i32 0, .int .i32 0, .int .u8 0] := by
  unfold rowC
  rw [List.range_succ, List.map_append, celsV_app]
  rfl

theorem extract_size1 (s : ByteArray) (i : Nat) : (s.extract i (i + 1)).size ≤ 1 := by rw [ByteArray.size_extract]; omega
theorem own_any {w : World} {base n sz : Nat} {T : TypeId} {v : Value} {xs : List Value} (h : w.ownsRow base T sz v n xs) : ∃ A c, v = .slice A n c := by
  rcases h.2 with ⟨e, e2⟩ | ⟨g, cap, cur, e, _⟩
  · subst e2; exact ⟨_, _, e⟩
  · exact ⟨_, _, e⟩
theorem row_scr (s : ByteArray) (A : Option Addr) (c : Nat) : scrV (rowS s) A c = .agg #[.int .i64 s.size, .int .i64 1, .slice A s.size c, .int .i64 0, .int .i64 0, .bool false] := by
  have e : (rowS s).cells.length = s.size := rowC_len s s.size
  unfold scrV
  rw [e]
  rfl
theorem own_store_far {w : World} {base n sz b i : Nat} {T : TypeId} {v y : Value} {xs : List Value} (h : w.ownsRow base T sz v n xs) (hb : b < base) : (w.setCell ⟨b, i, none⟩ y).ownsRow base T sz v n xs :=
  h.kept (grown_set w ⟨b, i, none⟩ y) (by
    rcases h.2 with ⟨e, _⟩ | ⟨g', cap, cur, e, hl, _⟩
    · subst e; exact Or.inl rfl
    · subst e; exact Or.inr (fun q => by have := Option.some.inj q; simp only at this; omega))
theorem rowC_ok (s : ByteArray) (k : Nat) : ∀ x ∈ rowC s k, okC x := by
  intro x hx
  obtain ⟨i, _, rfl⟩ := List.mem_map.1 hx
  have := extract_size1 s i
  exact ⟨by show (s.extract i (i + 1)).size ≤ _; omega, by show (-128 : Int) ≤ 1; omega, by show (1 : Int) ≤ 127; omega⟩
theorem own5_form {w : World} {base n : Nat} {T : TypeId} {v : Value} {L : List Cel} (h : w.ownsRow base T 5 v n (celsV L)) : ∃ A c, v = .slice A n c ∧ (A = none → c = 0) ∧ n ≤ c ∧ Sees w w.heap.size A (celsV L) := by
  rcases h.2 with ⟨e, e2⟩ | ⟨g, cap, cur, e, _, hg, hc, _⟩
  · subst e2
    have hl := h.1
    rw [Nat.zero_mul] at hl
    refine ⟨none, 0, e, fun _ => rfl, Nat.le_refl _, ?_⟩
    rw [List.length_eq_zero_iff.1 hl]
    exact Sees.nil _ _ _
  · refine ⟨_, _, e, fun z => by (cases z), hc, fun _ => ⟨_, rfl, (Array.getElem?_eq_some_iff.1 hg).1, fun j u hj => ?_⟩⟩
    subst e
    exact h.cells (g := g) rfl j u hj

end Go.Proofs.YtkllilehdpdbdaaDoor

/- What wakes looks at (plain). -/
namespace Go.Proofs.YtkllilehdpdbdaaDoor
open Go.RowKit
set_option linter.unusedVariables false

def bAB : ByteArray := ⟨#[97, 98, 32, 32]⟩
def bAZ : ByteArray := ⟨#[97, 90, 32, 32]⟩
def bAb : ByteArray := ⟨#[97, 98]⟩
def bAc : ByteArray := ⟨#[97, 99]⟩
def wri0 (d : Int) : Wri := ⟨d, false, ⟨0, 0, [], 0, 0, false⟩, tel0, false⟩
def wri1 : Wri := frameW (wri0 3) (rowS bAB)
def wri2 : Wri := frameW wri1 (rowS bAB)
theorem wk_r1 : rightS (rowS bAB) = true := by decide +kernel
theorem wk_r2 : rightS (rowS bAZ) = true := by decide +kernel
theorem wk_r3 : rightS (rowS bAb) = true := by decide +kernel
theorem wk_r4 : rightS (rowS bAc) = true := by decide +kernel
theorem wk_f1 : (frameT (wri0 3) (redS (rowS bAB) 3)).out = ⟨#[27, 91, 48, 109, 27, 91, 63, 55, 108, 27, 91, 50, 74, 27, 91, 72, 27, 91, 63, 50, 53, 108, 97, 98]⟩ := by decide +kernel
theorem wk_f2 : (frameT wri1 (redS (rowS bAB) 3)).out = ⟨#[]⟩ := by decide +kernel
theorem wk_f3 : (frameT wri2 (redS (rowS bAZ) 3)).out = ⟨#[27, 91, 49, 59, 50, 72, 90]⟩ := by decide +kernel
theorem wk_c : changedC (rowS bAb) (rowS bAc) = 0 := by decide +kernel
theorem wk_l : changedL (rowS bAb) (rowS bAc) = [1] := by decide +kernel
theorem wk_t1 : totS (rowS bAB).cells ≤ 1000000000 := by decide +kernel
theorem wk_t2 : totS (rowS bAZ).cells ≤ 1000000000 := by decide +kernel
end Go.Proofs.YtkllilehdpdbdaaDoor

/- What the document says of a few small frames (the law's wakes): the walk. -/
namespace Go.Proofs.YtkllilehdpdbdaaDoor
open Go Go.RowKit Go.Sort
set_option linter.unusedVariables false
set_option linter.unusedSimpArgs false

theorem conv_str {LO : Nat} {v : Value} {s : ByteArray} {w : World} (h : w.ownsRow LO 5 1 v s.size (Lib.strCells s)) : (convert 26 9 v).run Tryd.prog w = .ok (.string s) w := by
  have e1 : bts (s.data.toList.map fun b => (b.toNat : Int)) = Lib.strCells s := by
    unfold bts Lib.strCells
    rw [List.map_map]
    rfl
  have e2 : barr (s.data.toList.map fun b => (b.toNat : Int)) = s := by
    unfold barr
    rw [List.map_map]
    apply ByteArray.ext
    show ((s.data.toList.map _).toArray) = s.data
    have : (fun b : UInt8 => UInt8.ofNat ((b.toNat : Int)).toNat) = id := by
      funext b
      simp
    rw [show ((fun n : Int => UInt8.ofNat n.toNat) ∘ fun b : UInt8 => (b.toNat : Int)) = id from this]
    simp
  have e3 : (s.data.toList.map fun b => (b.toNat : Int)).length = s.size := by simp
  have := conv_own (LO := LO) (v := v) (l := s.data.toList.map fun b => (b.toNat : Int)) (w := w) (by rw [e1, e3]; exact h)
  rw [e2] at this
  exact this
/-- a writer of the law's own at hand, in a world behind w0 -/
structure WkSt (w0 : World) (b : Nat) (x : Wri) (w : World) : Prop where
  env : EnvD w
  nb : b ≠ 1 ∧ b ≠ 0 ∧ b ≠ 2
  bel : Below w0.heap.size w0 w
  lo : w0.heap.size ≤ b
  wr : ∃ LA Lc, WrAt w b x LA Lc
theorem WkSt.below {w0 : World} {b : Nat} {x : Wri} {w w' : World} (h : WkSt w0 b x w) (hb : Below w.heap.size w w') : WkSt w0 b x w' := by
  obtain ⟨LA, Lc, h1⟩ := h.wr
  exact ⟨h.env.of_below hb (Nat.le_refl _), h.nb, h.bel.trans (hb.mono h.bel.size), h.lo, LA, Lc, h1.below hb⟩
theorem wk_new (d : Int) (hd : okD d = true) (w : World) (E : EnvD w) : WkSt w w.heap.size (wri0 d) (w.alloc (.cells (wriV d false 0 0 none 0 0 0 0 false tel0 false).toArray 60)) := by
  have hb : Below w.heap.size w (w.alloc (.cells (wriV d false 0 0 none 0 0 0 0 false tel0 false).toArray 60)) := (Below.refl _ _).alloc (Nat.le_refl _) _
  refine ⟨E.of_below hb (Nat.le_refl _), ⟨?_, ?_, ?_⟩, hb, Nat.le_refl _, none, 0, World.alloc_heap_new w _, (fun h => by cases h), by show (0 : Int) ≤ 0 ∧ (0 : Int) ≤ 5000; omega, Nat.zero_le _⟩
  · have := block_lt_of_cell (E.st.on 0 (by decide)); simp only at this; omega
  · have := block_lt_of_cell (E.st.off 0 (by decide)); simp only at this; omega
  · have := E.pg; omega
def FrGives (w0 : World) (b : Nat) (x : Wri) (s : Scr) (w : World) (e : Ending) (w' : World) : Prop :=
  ∃ v, e = .returned (.tuple #[v, .int .i64 0]) ∧ w'.ownsRow w.heap.size 5 1 v (frameT x (redS s x.depth)).out.size (Lib.strCells (frameT x (redS s x.depth)).out) ∧ WkSt w0 b (frameW x s) w' ∧ w.grownBy w' (some b)
theorem wk_frame {w0 : World} {b : Nat} {x : Wri} {w : World} (h : WkSt w0 b x w) (s : Scr) (A : Option Addr) (c : Nat) (hs : ScrAt w w.heap.size s A c) (hr : rightS s = true) (ht : totS s.cells ≤ 1000000000) :
    Calls Tryd.prog 16 #[.pointer (some ⟨b, 0, none⟩), scrV s A c] w (FrGives w0 b x s w) := by
  obtain ⟨LA, Lc, h1⟩ := h.wr
  refine (d_Frame b x LA Lc s A c w h.env h.nb h1 hs hr ht).mono ?_
  rintro e w' ⟨v, LA', Lc', rfl, ho, hw, hg⟩
  exact ⟨v, rfl, ho, ⟨h.env.grown hg h.nb.1 h.nb.2.1 h.nb.2.2, h.nb, h.bel.grown hg h.bel.size (fun k e => by cases e; exact h.lo), h.lo, LA', Lc', hw⟩, hg⟩
/-- bytes that were told -/
def ToldB (w0 : World) (b : Nat) (v : Value) (s : ByteArray) (w : World) : Prop := ∃ lo, b < lo ∧ w.ownsRow lo 5 1 v s.size (Lib.strCells s)
theorem ToldB.below {w0 : World} {b : Nat} {v : Value} {s : ByteArray} {w w' : World} (h : ToldB w0 b v s w) (hb : Below w.heap.size w w') : ToldB w0 b v s w' := by
  obtain ⟨lo, h1, h2⟩ := h
  exact ⟨lo, h1, own_call h2 hb⟩
theorem ToldB.grown {w0 : World} {b : Nat} {v : Value} {s : ByteArray} {w w' : World} (h : ToldB w0 b v s w) (hg : w.grownBy w' (some b)) : ToldB w0 b v s w' := by
  obtain ⟨lo, h1, h2⟩ := h
  refine ⟨lo, h1, h2.kept hg ?_⟩
  rcases h2.2 with ⟨e, _⟩ | ⟨g', cap, cur, e, hl, _⟩
  · subst e; exact Or.inl rfl
  · subst e; exact Or.inr (fun q => by have := Option.some.inj q; simp only at this; omega)
theorem ToldB.slice {w0 : World} {b : Nat} {v : Value} {s : ByteArray} {w : World} (h : ToldB w0 b v s w) : ∃ A c, v = .slice A s.size c := by
  obtain ⟨lo, h1, h2⟩ := h
  exact own_slice' h2
theorem ToldB.conv {w0 : World} {b : Nat} {v : Value} {s : ByteArray} {w : World} (h : ToldB w0 b v s w) : (convert 26 9 v).run Tryd.prog w = .ok (.string s) w := by
  obtain ⟨lo, h1, h2⟩ := h
  exact conv_str h2

def bC1 : ByteArray := ⟨#[27, 91, 48, 109, 27, 91, 63, 55, 108, 27, 91, 50, 74, 27, 91, 72, 27, 91, 63, 50, 53, 108, 97, 98]⟩
def bC3 : ByteArray := ⟨#[27, 91, 49, 59, 50, 72, 90]⟩
theorem wk_f1' : (frameT (wri0 3) (redS (rowS bAB) (wri0 3).depth)).out = bC1 := wk_f1
theorem wk_f2' : (frameT wri1 (redS (rowS bAB) wri1.depth)).out = zB := wk_f2
theorem wk_f3' : (frameT wri2 (redS (rowS bAZ) wri2.depth)).out = bC3 := wk_f3
end Go.Proofs.YtkllilehdpdbdaaDoor

/- What the rows' listed variables give the walks. -/
namespace Go.Proofs.YtkllilehdpdbdaaDoor
open Go.RowKit Go.ChangeShapes

theorem gDb : Tryd.prog.globalNamed "math/bits.deBruijn64tab" = some 4 := by kernel_rfl
theorem gPow : Tryd.prog.globalNamed "internal/strconv.uint64pow10" = some 2 := by kernel_rfl
theorem gOn : Tryd.prog.globalNamed "fresco/style.on" = some 1 := by kernel_rfl
theorem gOff : Tryd.prog.globalNamed "fresco/style.off" = some 0 := by kernel_rfl
theorem cell_lt {w : World} {g : Nat} {v : Value} {o : Nat} (h : w.cell? ⟨g, o, none⟩ = some v) : g < w.heap.size := block_lt_of_cell h
def onZ : List Int := [1, 2, 3, 4, 5, 7, 8, 9]
def offZ : List Int := [22, 22, 23, 24, 25, 27, 28, 29]

theorem env_all {W : World} (h : laidMetH Tryd.prog [("math/bits.deBruijn32tab", Rows.laid_math_bits_deBruijn32tab), ("math/bits.deBruijn64tab", Rows.laid_math_bits_deBruijn64tab), ("internal/strconv.uint64pow10", Rows.laid_internal_strconv_uint64pow10), ("fresco/style.on", Rows.laid_fresco_style_on), ("fresco/style.off", Rows.laid_fresco_style_off)] W) : EnvD W := by
  have e : laidMetH Tryd.prog [("math/bits.deBruijn32tab", Rows.laid_math_bits_deBruijn32tab), ("math/bits.deBruijn64tab", Rows.laid_math_bits_deBruijn64tab), ("internal/strconv.uint64pow10", Rows.laid_internal_strconv_uint64pow10), ("fresco/style.on", Rows.laid_fresco_style_on), ("fresco/style.off", Rows.laid_fresco_style_off)] W = laidMet Tryd.prog [("math/bits.deBruijn32tab", Rows.laid_math_bits_deBruijn32tab), ("math/bits.deBruijn64tab", Rows.laid_math_bits_deBruijn64tab), ("internal/strconv.uint64pow10", Rows.laid_internal_strconv_uint64pow10), ("fresco/style.on", Rows.laid_fresco_style_on), ("fresco/style.off", Rows.laid_fresco_style_off)] W := MakeChecks.laidMetH_plain _ _ _ (by kernel_rfl)
  rw [e] at h
  have tp : Lib.TabIs Tryd.prog W "internal/strconv.uint64pow10" .u64 Lib.pow10Tab :=
    Lib.tabIs_of_head (t := 112) gPow (by kernel_rfl) Tryd.underlying112 Tryd.underlying99 (by kernel_rfl) (by kernel_rfl) h.tail.tail
  have ton : Lib.TabIs Tryd.prog W "fresco/style.on" .i64 onZ :=
    Lib.tabIs_of_head (t := 89) gOn (by kernel_rfl) Tryd.underlying89 Tryd.underlying3 (by kernel_rfl) (by kernel_rfl) h.tail.tail.tail
  have tf : Lib.TabIs Tryd.prog W "fresco/style.off" .i64 offZ :=
    Lib.tabIs_of_head (t := 89) gOff (by kernel_rfl) Tryd.underlying89 Tryd.underlying3 (by kernel_rfl) (by kernel_rfl) h.tail.tail.tail.tail
  exact ⟨⟨fun k hk => ton.cell gOn k hk, fun k hk => tf.cell gOff k hk⟩, tp, cell_lt (tp.cell gPow 0 (by decide))⟩
end Go.Proofs.YtkllilehdpdbdaaDoor
