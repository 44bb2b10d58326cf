/- The law's own: a screen of one row of letters. -/
import Derived.Test.YtohgodifnbpafaaDoorDgJf
import Derived.Test.YtohgodifnbpafaaDoorDgP
import Derived.Test.YtohgodifnbpafaaDoorDgI
import Derived.Test.YtohgodifnbpafaaDoorRows
import Derived.ProofKit
import Derived.LaidMore
import Derived.OpenShut
import Derived.MakeChecks
import Derived.Lib.LaidTab
import Derived.Stop.LaidErr
import Derived.Stop.Joined
namespace Go.Proofs.YtohgodifnbpafaaDoor
open Go Go.RowKit Go.Sort
set_option linter.unusedVariables false
set_option linter.unusedSimpArgs false

def rowC (s : ByteArray) (k : Nat) : List Cel := (List.range k).map fun i => ⟨s.extract i (i + 1), 1, plainS⟩
def rowS (s : ByteArray) : Scr := ⟨s.size, 1, rowC s s.size, 0, 0, false⟩
theorem rowC_len (s : ByteArray) (k : Nat) : (rowC s k).length = k := by simp [rowC]
theorem rowC_succ (s : ByteArray) (k : Nat) : celsV (rowC s (k + 1)) = celsV (rowC s k) ++ [.string (s.extract k (k + 1)), .int .i8 1, .int .i32 0, .int .i32 0, .int .u8 0] := by
  unfold rowC
  rw [List.range_succ, List.map_append, celsV_app]
  rfl

theorem extract_size1 (s : ByteArray) (i : Nat) : (s.extract i (i + 1)).size ≤ 1 := by rw [ByteArray.size_extract]; omega
theorem own_any {w : World} {base n sz : Nat} {T : TypeId} {v : Value} {xs : List Value} (h : w.ownsRow base T sz v n xs) : ∃ A c, v = .slice A n c := by
  rcases h.2 with ⟨e, e2⟩ | ⟨g, cap, cur, e, _⟩
  · subst e2; exact ⟨_, _, e⟩
  · exact ⟨_, _, e⟩
theorem row_scr (s : ByteArray) (A : Option Addr) (c : Nat) : scrV (rowS s) A c = .agg #[.int .i64 s.size, .int .i64 1, .slice A s.size c, .int .i64 0, .int .i64 0, .bool false] := by
  have e : (rowS s).cells.length = s.size := rowC_len s s.size
  unfold scrV
  rw [e]
  rfl
theorem own_store_far {w : World} {base n sz b i : Nat} {T : TypeId} {v y : Value} {xs : List Value} (h : w.ownsRow base T sz v n xs) (hb : b < base) : (w.setCell ⟨b, i, none⟩ y).ownsRow base T sz v n xs :=
  h.kept (grown_set w ⟨b, i, none⟩ y) (by
    rcases h.2 with ⟨e, _⟩ | ⟨g', cap, cur, e, hl, _⟩
    · subst e; exact Or.inl rfl
    · subst e; exact Or.inr (fun q => by have := Option.some.inj q; simp only at this; omega))
theorem rowC_ok (s : ByteArray) (k : Nat) : ∀ x ∈ rowC s k, okC x := by
  intro x hx
  obtain ⟨i, _, rfl⟩ := List.mem_map.1 hx
  have := extract_size1 s i
  exact ⟨by show (s.extract i (i + 1)).size ≤ _; omega, by show (-128 : Int) ≤ 1; omega, by show (1 : Int) ≤ 127; omega⟩
theorem own5_form {w : World} {base n : Nat} {T : TypeId} {v : Value} {L : List Cel} (h : w.ownsRow base T 5 v n (celsV L)) : ∃ A c, v = .slice A n c ∧ (A = none → c = 0) ∧ n ≤ c ∧ Sees w w.heap.size A (celsV L) := by
  rcases h.2 with ⟨e, e2⟩ | ⟨g, cap, cur, e, _, hg, hc, _⟩
  · subst e2
    have hl := h.1
    rw [Nat.zero_mul] at hl
    refine ⟨none, 0, e, fun _ => rfl, Nat.le_refl _, ?_⟩
    rw [List.length_eq_zero_iff.1 hl]
    exact Sees.nil _ _ _
  · refine ⟨_, _, e, fun z => by (cases z), hc, fun _ => ⟨_, rfl, (Array.getElem?_eq_some_iff.1 hg).1, fun j u hj => ?_⟩⟩
    subst e
    exact h.cells (g := g) rfl j u hj

set_option maxHeartbeats 4000000 in
set_option maxRecDepth 100000 in
theorem law_row (s : ByteArray) (hs : s.size ≤ 100) (w : World) : Calls Tryd.prog 18 #[.string s] w fun e w' => ∃ A c, e = .returned (scrV (rowS s) A c) ∧ ScrAt w' w'.heap.size (rowS s) A c ∧ Below w.heap.size w w' := by
  obtain ⟨i0, hi0, hz0, hz1, hz2⟩ := info_parts infoL
  obtain ⟨Q, hQ⟩ : ∃ Q, Q = (w.alloc (.cells #[.int .i64 0, .int .i64 0, .slice none 0 0, .int .i64 0, .int .i64 0, .bool false] 25)).alloc (.cells #[.int .i64 s.size, .int .i64 1, .slice none 0 0, .int .i64 0, .int .i64 0, .bool false] 25) := ⟨_, rfl⟩
  have BQ : Below w.heap.size w Q := by rw [hQ]; exact ((Below.refl _ w).alloc (Nat.le_refl _) _).alloc (by simp) _
  have QS : Q.heap.size = w.heap.size + 2 := by rw [hQ]; simp
  have O1 : Own1 Q w.heap.size zS 25 := by
    rw [hQ]
    exact Own1.below (World.alloc_heap_new w _) ((Below.refl _ _).alloc (Nat.le_refl _) _)
  have O2 : Own1 Q (w.heap.size + 1) [.int .i64 s.size, .int .i64 1, .slice none 0 0, .int .i64 0, .int .i64 0, .bool false] 25 := by
    have h := World.alloc_heap_new (w.alloc (.cells #[.int .i64 0, .int .i64 0, .slice none 0 0, .int .i64 0, .int .i64 0, .bool false] 25)) (.cells #[.int .i64 s.size, .int .i64 1, .slice none 0 0, .int .i64 0, .int .i64 0, .bool false] 25)
    rw [← hQ] at h
    have e : (w.alloc (.cells #[.int .i64 0, .int .i64 0, .slice none 0 0, .int .i64 0, .int .i64 0, .bool false] 25)).heap.size = w.heap.size + 1 := by simp
    rw [e] at h
    exact h
  have R0 : Hid (Below w.heap.size w Q ∧ Own1 Q w.heap.size zS 25 ∧ ∃ v, Own1 Q (w.heap.size + 1) [.int .i64 s.size, .int .i64 1, v, .int .i64 0, .int .i64 0, .bool false] 25 ∧ Q.ownsRow (w.heap.size + 2) 60 5 v 0 (celsV (rowC s 0))) := Lib.hid ⟨BQ, O1, _, O2, World.ownsRow_nil _ _ _ _⟩
  clear BQ O1 O2
  go_enter Tryd.func18, Tryd.ntmps18
  go_wp2_with fail
  rw [← hQ]
  clear hQ QS
  go_loopw [4, 22] (fun i s22 wr => s22 ≠ tokV ∧ ∃ k : Nat, k ≤ s.size ∧ i = .int .i64 k ∧ Hid (Below w.heap.size w wr ∧ Own1 wr w.heap.size zS 25 ∧ ∃ v, Own1 wr (w.heap.size + 1) [.int .i64 s.size, .int .i64 1, v, .int .i64 0, .int .i64 0, .bool false] 25 ∧ wr.ownsRow (w.heap.size + 2) 60 5 v k (celsV (rowC s k)))) (fun i _ _ => s.size - (intOf i).toNat)
  case atStart => exact ⟨(by intro h; cases h), 0, Nat.zero_le _, rfl, R0⟩
  case round =>
    obtain ⟨ht, k, hk, rfl, hr⟩ := hrel
    clear R0
    obtain ⟨hb, h1, v, h2, hrow⟩ := hr.out
    obtain ⟨A, c, rfl, hcap, hnc, hsee⟩ := own5_form hrow
    by_cases lt : k < s.size
    · have hb := Lib.hid hb
      have H1 := Lib.hid h1
      have wk : IntKind.i64.wrap ((k : Int) + 1) = (k : Int) + 1 := IntWalk.i64_in _ (by omega)
      have slr : ∀ W, (Instr.slice 9 (.string s) (some (.int .i64 (k : Int))) (some (.int .i64 ((k : Int) + 1))) none).run Tryd.prog W = .ok (.string (s.extract k (k + 1))) W := fun W => by
        have : ((k : Int) + 1).toNat = k + 1 := by omega
        rw [run_slice_string_if _ _ _ _ _ _ _ Tryd.underlying9, if_pos (by omega), if_pos (by omega)]
        simp only [this]
        rfl
      have NX := Lib.hid (rowC_succ s k)
      generalize s.extract k (k + 1) = x at *
      have g2 := fun d os => (h2.blk.regrown d os).c 2 _ rfl
      have H2 := Lib.hid h2
      have HR := Lib.hid hrow
      clear h1 h2 hrow hr hsee
      go_upto_region 5 with fail
      refine wp_region_spec 9 [(22, showS 1 [.string x, .int .i8 1, .int .i32 0, .int .i32 0, .int .u8 0])] [22] (by kernel_rfl) (by kernel_rfl) (by kernel_rfl) (by intro t h0; simp at h0; subst h0; exact ht) ?_
      simp only [List.take_succ_cons, List.take_zero, List.drop_succ_cons, List.drop_zero]
      repeat (refine wpS_step (by rfl) (fun K hK => ?_); go_simp; first | (refine hK _ ?_; clear hK K) | (apply Exists.intro; refine ⟨fun _ => ?_, hK _ ?_⟩; (fail); clear hK K))
      refine wpS_born 22 rfl (by simp) (by first | (simp; done) | simp [put_size]) (by rfl) (by rfl) (by intro _ _ h; cases h) (fun x => ?_) ?_
      · go_simp
        exact born_slice (by simp [grow, redrawn])
      refine wpS_nil ?_
      intro W1 vs1 hl hv
      obtain ⟨g, e22, lg, cg⟩ := hv 22 (by simp) rfl
      have hb1 := later_below.1 hl
      simp only [fillA, e22]
      have HR1 := HR.out.kept (row := none) ⟨hb1.os, hb1.tape, hb1.output, hb1.size, fun k hk _ => hb1.block k hk⟩ (by cases (Value.slice A k c).ownBlock <;> simp)
      have B1 := Lib.hid (hb.out.trans (hb1.mono hb.out.size))
      have H11 := Lib.hid (H1.out.below hb1)
      have H21 := H2.out.below hb1
      have l21 := H21.lt
      have n2 := H21.blk.c 2 _ rfl
      have f2 := H21.blk.f 2 _ rfl
      have OWN : Hid (∀ v' w3, w3.ownsRow (w.heap.size + 2) 60 5 v' (k + 1) (celsV (rowC s k) ++ [.string x, .int .i8 1, .int .i32 0, .int .i32 0, .int .u8 0]) → W1.grownBy w3 (Value.slice A k c).ownBlock → Hid (Own1 w3 (w.heap.size + 1) [.int .i64 s.size, .int .i64 1, .slice A k c, .int .i64 0, .int .i64 0, .bool false] 25 ∧ Hid (Below w.heap.size w (w3.setCell ⟨w.heap.size + 1, 2, none⟩ v') ∧ Own1 (w3.setCell ⟨w.heap.size + 1, 2, none⟩ v') w.heap.size zS 25 ∧ ∃ v, Own1 (w3.setCell ⟨w.heap.size + 1, 2, none⟩ v') (w.heap.size + 1) [.int .i64 s.size, .int .i64 1, v, .int .i64 0, .int .i64 0, .bool false] 25 ∧ (w3.setCell ⟨w.heap.size + 1, 2, none⟩ v').ownsRow (w.heap.size + 2) 60 5 v (k + 1) (celsV (rowC s (k + 1)))))) := Lib.hid (fun v' w3 ho hg => Lib.hid (by
        have nb : ∀ j, (Value.slice A k c).ownBlock = some j → w.heap.size + 2 ≤ j := fun j e => (HR1.lt j e).1
        have o2 := H21.of_grown hg (fun e => by have := nb _ e.symm; omega)
        have o1 := H11.out.of_grown hg (fun e => by have := nb _ e.symm; omega)
        have gs := grown_set w3 ⟨w.heap.size + 1, 2, none⟩ v'
        refine ⟨o2, Lib.hid ⟨?_, o1.of_grown gs (by intro e; have := Option.some.inj e; simp only at this; omega), v', o2.set 2 v', ?_⟩⟩
        · exact (B1.out.grown hg B1.out.size (fun j e => by have := nb j e; omega)).setCell (p := ⟨w.heap.size + 1, 2, none⟩) (Nat.le_succ _) _
        · rw [NX.out]
          refine ho.kept gs ?_
          rcases ho.2 with ⟨rfl, _⟩ | ⟨g', cap, cur, rfl, hb, _⟩
          · exact Or.inl rfl
          · exact Or.inr (fun q => by have := Option.some.inj q; simp only at this; omega)))
      have lw := B1.out.size
      have L1 := H11.out.lt
      have l22 := H21.lt
      have hlo : w.heap.size + 2 ≤ W1.heap.size := by omega
      have NW : ∀ (j : Nat) (u : Value), [Value.string x, .int .i8 1, .int .i32 0, .int .i32 0, .int .u8 0][j]? = some u → W1.cell? ((⟨g, 0, none⟩ : Addr).add j) = some u := fun j u h => by
        rw [show (⟨g, 0, none⟩ : Addr).add j = ⟨g, j, none⟩ by unfold Addr.add; split <;> simp_all]
        exact cg j u h
      have NWH := Lib.hid NW
      have O5 : ∀ u ∈ [Value.string x, .int .i8 1, .int .i32 0, .int .i32 0, .int .u8 0], u.oneCell' = true := by
        intro u hu
        simp at hu
        rcases hu with rfl | rfl | rfl | rfl | rfl <;> rfl
      have O5H := Lib.hid O5
      clear hl hv hb1 g2 H2 H1 hb HR e22 cg NW O5 H21
      go_wp2_with (at_builtin; refine wpList_append_own _ rfl (.tmp 15) (.tmp 22) 23 rfl (w.heap.size + 2) 60 i0 (.agg #[.string ⟨#[]⟩, .int .i8 0, .int .i32 0, .int .i32 0, .int .u8 0]) 5 32 Tryd.underlying23 hi0 hz0 hz1 hz2 rfl (by decide) _ k _ rfl HR1 ⟨g, 0, none⟩ 1 1 [.string x, .int .i8 1, .int .i32 0, .int .i32 0, .int .u8 0] rfl rfl NWH.out O5H.out (by unfold maxLen; omega) (by omega) hlo ?_; intro v' w3 hown' hgrow _; obtain ⟨A', c', rfl⟩ := own_any hown'; have OW3 := OWN.out _ w3 hown' hgrow; have n3 := OW3.out.1.blk.c 2 _ rfl; have f3 := OW3.out.1.blk.f 2 _ rfl)
      go_roundw
      case rel => exact ⟨(by intro h; cases h), k + 1, by omega, by go_num, OW3.out.2⟩
      case measure => simp [intOf]; omega
    · have e : k = s.size := by omega
      subst e
      have HB := Lib.hid hb
      have HS := Lib.hid hsee
      have HC := Lib.hid hcap
      have k0 := h1.blk.c 0 _ rfl
      have k1 := h1.blk.c 1 _ rfl
      have k2 := h1.blk.c 2 _ rfl
      have k3 := h1.blk.c 3 _ rfl
      have k4 := h1.blk.c 4 _ rfl
      have k5 := h1.blk.c 5 _ rfl
      have f0 := h1.blk.f 0 _ rfl
      have f1 := h1.blk.f 1 _ rfl
      have f2 := h1.blk.f 2 _ rfl
      have f3 := h1.blk.f 3 _ rfl
      have f4 := h1.blk.f 4 _ rfl
      have f5 := h1.blk.f 5 _ rfl
      have n0 := h2.blk.c 0 _ rfl
      have n1 := h2.blk.c 1 _ rfl
      have n2 := h2.blk.c 2 _ rfl
      have n3 := h2.blk.c 3 _ rfl
      have n4 := h2.blk.c 4 _ rfl
      have n5 := h2.blk.c 5 _ rfl
      have H2 := Lib.hid h2
      have HR := Lib.hid hrow
      have HN := Lib.hid hnc
      clear hr h1 h2 hrow hsee hcap hb
      go_wp2_with fail
      refine bodyPost_ret (v := .agg #[.int .i64 s.size, .int .i64 1, .slice A s.size c, .int .i64 0, .int .i64 0, .bool false]) (by simp [results, Tryd.results18, go_sem, k0, k1, k2, k3, k4, k5]) rfl ⟨A, c, by rw [row_scr], ?_, ?_⟩
      · have lt2 : w.heap.size < w.heap.size + 2 := by omega
        have h1 := own_store_far (b := w.heap.size) (i := 0) (y := .int .i64 s.size) HR.out lt2
        have h2 := own_store_far (b := w.heap.size) (i := 1) (y := .int .i64 1) h1 lt2
        have h3 := own_store_far (b := w.heap.size) (i := 2) (y := .slice A s.size c) h2 lt2
        have h4 := own_store_far (b := w.heap.size) (i := 3) (y := .int .i64 0) h3 lt2
        have h5 := own_store_far (b := w.heap.size) (i := 4) (y := .int .i64 0) h4 lt2
        have h6 := own_store_far (b := w.heap.size) (i := 5) (y := .bool false) h5 lt2
        obtain ⟨A2, c2, e, _, _, hse⟩ := own5_form h6
        cases e
        exact ⟨by show (rowC s s.size).length ≤ c; rw [rowC_len]; exact HN.out, HC.out, by show (rowC s s.size).length ≤ _; rw [rowC_len]; omega, rowC_ok s _, hse⟩
      · repeat (first | with_reducible exact HB.out | refine Below.setCell ?_ (by exact Nat.le_refl _) _)
end Go.Proofs.YtohgodifnbpafaaDoor

/- What wakes looks at (plain). -/
namespace Go.Proofs.YtohgodifnbpafaaDoor
open Go.RowKit
set_option linter.unusedVariables false

def bAB : ByteArray := ⟨#[97, 98, 32, 32]⟩
def bAZ : ByteArray := ⟨#[97, 90, 32, 32]⟩
def bAb : ByteArray := ⟨#[97, 98]⟩
def bAc : ByteArray := ⟨#[97, 99]⟩
def wri0 (d : Int) : Wri := ⟨d, false, ⟨0, 0, [], 0, 0, false⟩, tel0, false⟩
def wri1 : Wri := frameW (wri0 3) (rowS bAB)
def wri2 : Wri := frameW wri1 (rowS bAB)
theorem wk_r1 : rightS (rowS bAB) = true := by decide +kernel
theorem wk_r2 : rightS (rowS bAZ) = true := by decide +kernel
theorem wk_r3 : rightS (rowS bAb) = true := by decide +kernel
theorem wk_r4 : rightS (rowS bAc) = true := by decide +kernel
theorem wk_f1 : (frameT (wri0 3) (redS (rowS bAB) 3)).out = ⟨#[27, 91, 48, 109, 27, 91, 63, 55, 108, 27, 91, 50, 74, 27, 91, 72, 27, 91, 63, 50, 53, 108, 97, 98]⟩ := by decide +kernel
theorem wk_f2 : (frameT wri1 (redS (rowS bAB) 3)).out = ⟨#[]⟩ := by decide +kernel
theorem wk_f3 : (frameT wri2 (redS (rowS bAZ) 3)).out = ⟨#[27, 91, 49, 59, 50, 72, 90]⟩ := by decide +kernel
theorem wk_c : changedC (rowS bAb) (rowS bAc) = 0 := by decide +kernel
theorem wk_l : changedL (rowS bAb) (rowS bAc) = [1] := by decide +kernel
theorem wk_t1 : totS (rowS bAB).cells ≤ 1000000000 := by decide +kernel
theorem wk_t2 : totS (rowS bAZ).cells ≤ 1000000000 := by decide +kernel
end Go.Proofs.YtohgodifnbpafaaDoor

/- What the document says of a few small frames (the law's wakes): the walk. -/
namespace Go.Proofs.YtohgodifnbpafaaDoor
open Go Go.RowKit Go.Sort
set_option linter.unusedVariables false
set_option linter.unusedSimpArgs false

theorem conv_str {LO : Nat} {v : Value} {s : ByteArray} {w : World} (h : w.ownsRow LO 5 1 v s.size (Lib.strCells s)) : (convert 40 9 v).run Tryd.prog w = .ok (.string s) w := by
  have e1 : bts (s.data.toList.map fun b => (b.toNat : Int)) = Lib.strCells s := by
    unfold bts Lib.strCells
    rw [List.map_map]
    rfl
  have e2 : barr (s.data.toList.map fun b => (b.toNat : Int)) = s := by
    unfold barr
    rw [List.map_map]
    apply ByteArray.ext
    show ((s.data.toList.map _).toArray) = s.data
    have : (fun b : UInt8 => UInt8.ofNat ((b.toNat : Int)).toNat) = id := by
      funext b
      simp
    rw [show ((fun n : Int => UInt8.ofNat n.toNat) ∘ fun b : UInt8 => (b.toNat : Int)) = id from this]
    simp
  have e3 : (s.data.toList.map fun b => (b.toNat : Int)).length = s.size := by simp
  have := conv_own (LO := LO) (v := v) (l := s.data.toList.map fun b => (b.toNat : Int)) (w := w) (by rw [e1, e3]; exact h)
  rw [e2] at this
  exact this
/-- a writer of the law's own at hand, in a world behind w0 -/
structure WkSt (w0 : World) (b : Nat) (x : Wri) (w : World) : Prop where
  env : EnvD w
  nb : b ≠ 1 ∧ b ≠ 0 ∧ b ≠ 2
  bel : Below w0.heap.size w0 w
  lo : w0.heap.size ≤ b
  wr : ∃ LA Lc, WrAt w b x LA Lc
theorem WkSt.below {w0 : World} {b : Nat} {x : Wri} {w w' : World} (h : WkSt w0 b x w) (hb : Below w.heap.size w w') : WkSt w0 b x w' := by
  obtain ⟨LA, Lc, h1⟩ := h.wr
  exact ⟨h.env.of_below hb (Nat.le_refl _), h.nb, h.bel.trans (hb.mono h.bel.size), h.lo, LA, Lc, h1.below hb⟩
theorem wk_new (d : Int) (hd : okD d = true) (w : World) (E : EnvD w) : WkSt w w.heap.size (wri0 d) (w.alloc (.cells (wriV d false 0 0 none 0 0 0 0 false tel0 false).toArray 67)) := by
  have hb : Below w.heap.size w (w.alloc (.cells (wriV d false 0 0 none 0 0 0 0 false tel0 false).toArray 67)) := (Below.refl _ _).alloc (Nat.le_refl _) _
  refine ⟨E.of_below hb (Nat.le_refl _), ⟨?_, ?_, ?_⟩, hb, Nat.le_refl _, none, 0, World.alloc_heap_new w _, (fun h => by cases h), by show (0 : Int) ≤ 0 ∧ (0 : Int) ≤ 5000; omega, Nat.zero_le _⟩
  · have := block_lt_of_cell (E.st.on 0 (by decide)); simp only at this; omega
  · have := block_lt_of_cell (E.st.off 0 (by decide)); simp only at this; omega
  · have := E.pg; omega
def FrGives (w0 : World) (b : Nat) (x : Wri) (s : Scr) (w : World) (e : Ending) (w' : World) : Prop :=
  ∃ v, e = .returned (.tuple #[v, .int .i64 0]) ∧ w'.ownsRow w.heap.size 5 1 v (frameT x (redS s x.depth)).out.size (Lib.strCells (frameT x (redS s x.depth)).out) ∧ WkSt w0 b (frameW x s) w' ∧ w.grownBy w' (some b)
theorem wk_frame {w0 : World} {b : Nat} {x : Wri} {w : World} (h : WkSt w0 b x w) (s : Scr) (A : Option Addr) (c : Nat) (hs : ScrAt w w.heap.size s A c) (hr : rightS s = true) (ht : totS s.cells ≤ 1000000000) :
    Calls Tryd.prog 15 #[.pointer (some ⟨b, 0, none⟩), scrV s A c] w (FrGives w0 b x s w) := by
  obtain ⟨LA, Lc, h1⟩ := h.wr
  refine (d_Frame b x LA Lc s A c w h.env h.nb h1 hs hr ht).mono ?_
  rintro e w' ⟨v, LA', Lc', rfl, ho, hw, hg⟩
  exact ⟨v, rfl, ho, ⟨h.env.grown hg h.nb.1 h.nb.2.1 h.nb.2.2, h.nb, h.bel.grown hg h.bel.size (fun k e => by cases e; exact h.lo), h.lo, LA', Lc', hw⟩, hg⟩
/-- bytes that were told -/
def ToldB (w0 : World) (b : Nat) (v : Value) (s : ByteArray) (w : World) : Prop := ∃ lo, b < lo ∧ w.ownsRow lo 5 1 v s.size (Lib.strCells s)
theorem ToldB.below {w0 : World} {b : Nat} {v : Value} {s : ByteArray} {w w' : World} (h : ToldB w0 b v s w) (hb : Below w.heap.size w w') : ToldB w0 b v s w' := by
  obtain ⟨lo, h1, h2⟩ := h
  exact ⟨lo, h1, own_call h2 hb⟩
theorem ToldB.grown {w0 : World} {b : Nat} {v : Value} {s : ByteArray} {w w' : World} (h : ToldB w0 b v s w) (hg : w.grownBy w' (some b)) : ToldB w0 b v s w' := by
  obtain ⟨lo, h1, h2⟩ := h
  refine ⟨lo, h1, h2.kept hg ?_⟩
  rcases h2.2 with ⟨e, _⟩ | ⟨g', cap, cur, e, hl, _⟩
  · subst e; exact Or.inl rfl
  · subst e; exact Or.inr (fun q => by have := Option.some.inj q; simp only at this; omega)
theorem ToldB.slice {w0 : World} {b : Nat} {v : Value} {s : ByteArray} {w : World} (h : ToldB w0 b v s w) : ∃ A c, v = .slice A s.size c := by
  obtain ⟨lo, h1, h2⟩ := h
  exact own_slice' h2
theorem ToldB.conv {w0 : World} {b : Nat} {v : Value} {s : ByteArray} {w : World} (h : ToldB w0 b v s w) : (convert 40 9 v).run Tryd.prog w = .ok (.string s) w := by
  obtain ⟨lo, h1, h2⟩ := h
  exact conv_str h2

def bC1 : ByteArray := ⟨#[27, 91, 48, 109, 27, 91, 63, 55, 108, 27, 91, 50, 74, 27, 91, 72, 27, 91, 63, 50, 53, 108, 97, 98]⟩
def bC3 : ByteArray := ⟨#[27, 91, 49, 59, 50, 72, 90]⟩
theorem wk_f1' : (frameT (wri0 3) (redS (rowS bAB) (wri0 3).depth)).out = bC1 := wk_f1
theorem wk_f2' : (frameT wri1 (redS (rowS bAB) wri1.depth)).out = zB := wk_f2
theorem wk_f3' : (frameT wri2 (redS (rowS bAZ) wri2.depth)).out = bC3 := wk_f3
set_option maxHeartbeats 16000000 in
set_option maxRecDepth 100000 in
theorem law_wakes (w : World) (E : EnvD w) : Calls Tryd.prog 7 #[] w fun e w' => e = .returned (.bool true) ∧ Below w.heap.size w w' := by
  have NW := Lib.hid (d_New 3 rfl w)
  have ST := Lib.hid (wk_new 3 rfl w E)
  clear E
  go_enter Tryd.func7, Tryd.ntmps7
  go_wp2_with fail
  refine NW.out.mono ?_; rintro e w1 ⟨rfl, h1⟩
  rw [← h1] at ST
  clear h1 NW
  obtain ⟨b, hb⟩ : ∃ b, b = w.heap.size := ⟨_, rfl⟩
  have HB := Lib.hid hb
  rw [← hb] at ST ⊢
  clear hb
  go_wp2_with fail
  refine (law_row bAB (by decide) _).mono ?_; rintro e w2 ⟨A, c, rfl, sc, hb2⟩
  have SC := Lib.hid sc
  have ST := Lib.hid (ST.out.below hb2)
  clear sc hb2
  go_wp2_with fail
  refine (wk_frame ST.out (rowS bAB) A c SC.out wk_r1 wk_t1).mono ?_; rintro e w3 ⟨v1, rfl, o1, st3, g3⟩
  have T1 : Hid (ToldB w b v1 bC1 w3) := Lib.hid ⟨w2.heap.size, (by obtain ⟨_, _, hw⟩ := ST.out.wr; exact hw.own.lt), (by rw [← wk_f1']; exact o1)⟩
  obtain ⟨A1, c1, rfl⟩ := T1.out.slice
  have ST : Hid (WkSt w b wri1 w3) := Lib.hid st3
  clear st3 o1 g3 SC
  go_wp2_with fail
  refine (law_row bAB (by decide) _).mono ?_; rintro e w4 ⟨A, c, rfl, sc, hb4⟩
  have SC := Lib.hid sc
  have ST := Lib.hid (ST.out.below hb4)
  have T1 := Lib.hid (T1.out.below hb4)
  clear sc hb4
  go_wp2_with fail
  refine (wk_frame ST.out (rowS bAB) A c SC.out wk_r1 wk_t1).mono ?_; rintro e w5 ⟨v2, rfl, o2, st5, g5⟩
  have T2 : Hid (ToldB w b v2 zB w5) := Lib.hid ⟨w4.heap.size, (by obtain ⟨_, _, hw⟩ := ST.out.wr; exact hw.own.lt), (by rw [← wk_f2']; exact o2)⟩
  have T1 := Lib.hid (T1.out.grown g5)
  obtain ⟨A2, c2, rfl⟩ := T2.out.slice
  rw [show zB.size = 0 from rfl] at T2 ⊢
  have ST : Hid (WkSt w b wri2 w5) := Lib.hid st5
  clear st5 o2 g5 SC
  go_wp2_with fail
  refine (law_row bAZ (by decide) _).mono ?_; rintro e w6 ⟨A, c, rfl, sc, hb6⟩
  have SC := Lib.hid sc
  have ST := Lib.hid (ST.out.below hb6)
  have T1 := Lib.hid (T1.out.below hb6)
  have T2 := Lib.hid (T2.out.below hb6)
  clear sc hb6
  go_wp2_with fail
  refine (wk_frame ST.out (rowS bAZ) A c SC.out wk_r2 wk_t2).mono ?_; rintro e w7 ⟨v3, rfl, o3, st7, g7⟩
  have T3 : Hid (ToldB w b v3 bC3 w7) := Lib.hid ⟨w6.heap.size, (by obtain ⟨_, _, hw⟩ := ST.out.wr; exact hw.own.lt), (by rw [← wk_f3']; exact o3)⟩
  have T1 := Lib.hid (T1.out.grown g7)
  have T2 := Lib.hid (T2.out.grown g7)
  obtain ⟨A3, c3, rfl⟩ := T3.out.slice
  have BL : Hid (Below w.heap.size w w7) := Lib.hid st7.bel
  clear st7 o3 g7 SC ST
  go_wp2_with fail
  refine (law_row bAb (by decide) _).mono ?_; rintro e w8 ⟨A5, c5, rfl, sc5, hb8⟩
  have T1 := Lib.hid (T1.out.below hb8)
  have T2 := Lib.hid (T2.out.below hb8)
  have T3 := Lib.hid (T3.out.below hb8)
  have BL := Lib.hid (BL.out.trans (hb8.mono BL.out.size))
  have SC5 := Lib.hid sc5
  clear sc5 hb8
  go_wp2_with fail
  refine (law_row bAc (by decide) _).mono ?_; rintro e w9 ⟨A6, c6, rfl, sc6, hb9⟩
  have T1 := Lib.hid (T1.out.below hb9)
  have T2 := Lib.hid (T2.out.below hb9)
  have T3 := Lib.hid (T3.out.below hb9)
  have BL := Lib.hid (BL.out.trans (hb9.mono BL.out.size))
  have SC5 := Lib.hid ((SC5.out.below hb9).more hb9.size)
  have SC6 := Lib.hid sc6
  clear sc6 hb9
  go_wp2_with fail
  refine (d_Changed (rowS bAb) (rowS bAc) A5 A6 c5 c6 w9 SC5.out SC6.out).mono ?_; rintro e wa ⟨v4, rfl, o4, hba⟩
  rw [wk_c]
  have hT1 := (T1.out.below hba).conv
  have hT3 := (T3.out.below hba).conv
  have BL := Lib.hid (BL.out.trans (hba.mono BL.out.size))
  rw [wk_l] at o4
  obtain ⟨A4, c4, rfl⟩ := own_slice' o4
  obtain ⟨g, rfl⟩ : ∃ g, A4 = some ⟨g, 0, none⟩ := by
    rcases o4.2 with ⟨e, e2⟩ | ⟨g, cap, cur, e, _⟩
    · cases e2
    · cases e; exact ⟨_, rfl⟩
  have ce := o4.cells (g := g) rfl 0 (.int .i64 1) rfl
  rw [show ({ block := g, off := 0 } : Addr).add 0 = ⟨g, 0, none⟩ from rfl] at ce
  have sb1 : (bC1.toList == [27, 91, 48, 109, 27, 91, 63, 55, 108, 27, 91, 50, 74, 27, 91, 72, 27, 91, 63, 50, 53, 108, 97, 98]) = true := by decide +kernel
  have sb3 : (bC3.toList == [27, 91, 49, 59, 50, 72, 90]) = true := by decide +kernel
  clear T1 T2 T3 o4 hba SC5 SC6
  go_wp2_with fail
  go_ret
  exact ⟨rfl, BL.out⟩
end Go.Proofs.YtohgodifnbpafaaDoor

/- What the rows' listed variables give the walks. -/
namespace Go.Proofs.YtohgodifnbpafaaDoor
open Go.RowKit Go.ChangeShapes

theorem gDb : Tryd.prog.globalNamed "math/bits.deBruijn64tab" = some 4 := by kernel_rfl
theorem gPow : Tryd.prog.globalNamed "internal/strconv.uint64pow10" = some 2 := by kernel_rfl
theorem gOn : Tryd.prog.globalNamed "fresco/style.on" = some 1 := by kernel_rfl
theorem gOff : Tryd.prog.globalNamed "fresco/style.off" = some 0 := by kernel_rfl
theorem cell_lt {w : World} {g : Nat} {v : Value} {o : Nat} (h : w.cell? ⟨g, o, none⟩ = some v) : g < w.heap.size := block_lt_of_cell h
def onZ : List Int := [1, 2, 3, 4, 5, 7, 8, 9]
def offZ : List Int := [22, 22, 23, 24, 25, 27, 28, 29]

theorem env_all {W : World} (h : laidMetH Tryd.prog [("math/bits.deBruijn32tab", Rows.laid_math_bits_deBruijn32tab), ("math/bits.deBruijn64tab", Rows.laid_math_bits_deBruijn64tab), ("internal/strconv.uint64pow10", Rows.laid_internal_strconv_uint64pow10), ("fresco/style.on", Rows.laid_fresco_style_on), ("fresco/style.off", Rows.laid_fresco_style_off)] W) : EnvD W := by
  have e : laidMetH Tryd.prog [("math/bits.deBruijn32tab", Rows.laid_math_bits_deBruijn32tab), ("math/bits.deBruijn64tab", Rows.laid_math_bits_deBruijn64tab), ("internal/strconv.uint64pow10", Rows.laid_internal_strconv_uint64pow10), ("fresco/style.on", Rows.laid_fresco_style_on), ("fresco/style.off", Rows.laid_fresco_style_off)] W = laidMet Tryd.prog [("math/bits.deBruijn32tab", Rows.laid_math_bits_deBruijn32tab), ("math/bits.deBruijn64tab", Rows.laid_math_bits_deBruijn64tab), ("internal/strconv.uint64pow10", Rows.laid_internal_strconv_uint64pow10), ("fresco/style.on", Rows.laid_fresco_style_on), ("fresco/style.off", Rows.laid_fresco_style_off)] W := MakeChecks.laidMetH_plain _ _ _ (by kernel_rfl)
  rw [e] at h
  have tp : Lib.TabIs Tryd.prog W "internal/strconv.uint64pow10" .u64 Lib.pow10Tab :=
    Lib.tabIs_of_head (t := 118) gPow (by kernel_rfl) Tryd.underlying118 Tryd.underlying104 (by kernel_rfl) (by kernel_rfl) h.tail.tail
  have ton : Lib.TabIs Tryd.prog W "fresco/style.on" .i64 onZ :=
    Lib.tabIs_of_head (t := 91) gOn (by kernel_rfl) Tryd.underlying91 Tryd.underlying3 (by kernel_rfl) (by kernel_rfl) h.tail.tail.tail
  have tf : Lib.TabIs Tryd.prog W "fresco/style.off" .i64 offZ :=
    Lib.tabIs_of_head (t := 91) gOff (by kernel_rfl) Tryd.underlying91 Tryd.underlying3 (by kernel_rfl) (by kernel_rfl) h.tail.tail.tail.tail
  exact ⟨⟨fun k hk => ton.cell gOn k hk, fun k hk => tf.cell gOff k hk⟩, tp, cell_lt (tp.cell gPow 0 (by decide))⟩
theorem diffNames_walk (w : World) (E : EnvD w) : Calls Tryd.prog 3 #[] w fun e w' => e = .returned (.bool true) ∧ Below w.heap.size w w' := by
  have WK := Lib.hid (law_wakes w E)
  clear E
  go_enter Tryd.func3, Tryd.ntmps3
  go_wp2_with fail
  refine WK.out.mono ?_; rintro e w1 ⟨rfl, h1⟩
  have H1 := Lib.hid h1
  clear h1
  go_wp2_with fail
  go_ret
  exact ⟨rfl, H1.out⟩
end Go.Proofs.YtohgodifnbpafaaDoor
