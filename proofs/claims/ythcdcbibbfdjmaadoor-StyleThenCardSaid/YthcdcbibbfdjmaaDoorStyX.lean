/- Words of a row of bytes; words that were joined (plain; of no program). -/
import Derived.Test.YthcdcbibbfdjmaaDoorStyF
namespace Go.Proofs.YthcdcbibbfdjmaaDoor
open Go.RowKit
set_option linter.unusedVariables false

def wl : List UInt8 → List UInt8 → List (List UInt8)
  | cur, [] => if cur = [] then [] else [cur]
  | cur, b :: t => if blankR b.toNat = true then (if cur = [] then wl [] t else cur :: wl [] t) else wl (cur ++ [b]) t
theorem wl_end (cur : List UInt8) (h : cur ≠ []) : wl cur [] = [cur] := by unfold wl; rw [if_neg h]
theorem wl_sep (cur t : List UInt8) (b : UInt8) (hb : blankR b.toNat = true) (h : cur ≠ []) : wl cur (b :: t) = cur :: wl [] t := by
  conv => lhs; unfold wl
  rw [if_pos hb, if_neg h]
theorem wl_sep0 (t : List UInt8) (b : UInt8) (hb : blankR b.toNat = true) : wl [] (b :: t) = wl [] t := by
  conv => lhs; unfold wl
  rw [if_pos hb, if_pos rfl]
theorem wl_char (cur t : List UInt8) (b : UInt8) (hb : ¬ blankR b.toNat = true) : wl cur (b :: t) = wl (cur ++ [b]) t := by
  conv => lhs; unfold wl
  rw [if_neg hb]
def mkB (l : List UInt8) : ByteArray := ⟨l.toArray⟩
theorem mkB_data (s : ByteArray) : s = mkB s.data.toList := by apply ByteArray.ext; simp [mkB]
theorem mkB_inj {l m : List UInt8} (h : mkB l = mkB m) : l = m := by have := congrArg (fun b : ByteArray => b.data.toList) h; simpa [mkB] using this
theorem mkB_size (l : List UInt8) : (mkB l).size = l.length := by simp [mkB, ByteArray.size]
theorem mkB_get (l : List UInt8) (k : Nat) (h : k < l.length) : (mkB l).get! k = l[k] := by
  have e := get_at (mkB l) k (by rw [mkB_size]; exact h)
  rw [Nat.add_zero] at e
  rw [e]
  rfl
theorem mkB_cut (l : List UInt8) (a b : Nat) : (mkB l).extract a b = mkB (Lib.pieceU l a b) := by
  apply ByteArray.ext
  rw [ByteArray.data_extract]
  apply Array.toList_inj.1
  simp [mkB, Lib.pieceU]

theorem spans_wl_end (l : List UInt8) (f : Nat) (st : Option Nat) (acc : List (Nat × Nat)) (h3 : ∀ a, st = some a → a < l.length) :
    (Lib.closeSpans (mkB l) (spansB (mkB l) f l.length st acc)).map (fun x => (mkB l).extract x.1 x.2) = acc.map (fun x => (mkB l).extract x.1 x.2) ++ (wl (Lib.openPiece l st l.length) []).map mkB := by
  rw [spansB_end _ _ _ _ _ (by rw [mkB_size]; omega)]
  cases st with
  | none =>
    show acc.map _ = acc.map _ ++ (wl [] []).map mkB
    rw [show wl [] [] = [] from rfl]
    simp
  | some a =>
    have ne := Lib.pieceU_ne l a l.length (h3 a rfl) (Nat.le_refl _)
    show (acc ++ [(a, (mkB l).size)]).map _ = acc.map _ ++ (wl (Lib.pieceU l a l.length) []).map mkB
    rw [wl_end _ ne, List.map_append, mkB_size]
    simp only [List.map_cons, List.map_nil, mkB_cut]

theorem spans_wl (l : List UInt8) : ∀ (f pos : Nat) (st : Option Nat) (acc : List (Nat × Nat)), l.length ≤ pos + f → pos ≤ l.length → (∀ a, st = some a → a < pos) →
    (Lib.closeSpans (mkB l) (spansB (mkB l) f pos st acc)).map (fun x => (mkB l).extract x.1 x.2) = acc.map (fun x => (mkB l).extract x.1 x.2) ++ (wl (Lib.openPiece l st pos) (l.drop pos)).map mkB := by
  intro f
  induction f with
  | zero =>
    intro pos st acc h1 h2 h3
    have e : pos = l.length := by omega
    subst e
    rw [List.drop_length]
    exact spans_wl_end l 0 st acc h3
  | succ f ih =>
    intro pos st acc h1 h2 h3
    by_cases lt : pos < l.length
    · have dr : l.drop pos = l[pos] :: l.drop (pos + 1) := List.drop_eq_getElem_cons lt
      have g := mkB_get l pos lt
      unfold spansB
      rw [if_pos (by rw [mkB_size]; exact lt), g, dr]
      by_cases b : blankR l[pos].toNat = true
      · rw [if_pos b]
        cases st with
        | none =>
          show (Lib.closeSpans (mkB l) (spansB (mkB l) f (pos + 1) none acc)).map _ = acc.map _ ++ (wl [] (l[pos] :: l.drop (pos + 1))).map mkB
          rw [ih (pos + 1) none acc (by omega) (by omega) (fun a h => by cases h), wl_sep0 _ _ b]
          rfl
        | some a =>
          have ne := Lib.pieceU_ne l a pos (h3 a rfl) h2
          show (Lib.closeSpans (mkB l) (spansB (mkB l) f (pos + 1) none (acc ++ [(a, pos)]))).map _ = acc.map _ ++ (wl (Lib.pieceU l a pos) (l[pos] :: l.drop (pos + 1))).map mkB
          rw [ih (pos + 1) none (acc ++ [(a, pos)]) (by omega) (by omega) (fun a h => by cases h), wl_sep _ _ _ b ne]
          show _ ++ (wl [] (l.drop (pos + 1))).map mkB = _
          simp only [List.map_append, List.map_cons, List.map_nil, mkB_cut, List.append_assoc, List.cons_append, List.nil_append]
      · rw [if_neg b, ih (pos + 1) (some (st.getD pos)) acc (by omega) (by omega) (fun a h => by
          cases st with
          | none => cases h; exact Nat.lt_succ_self _
          | some a' => cases h; have := h3 a' rfl; show a' < pos + 1; omega), wl_char _ _ _ b]
        congr 3
        cases st with
        | none =>
          show Lib.pieceU l pos (pos + 1) = [] ++ [l[pos]]
          unfold Lib.pieceU
          rw [dr, show pos + 1 - pos = 1 by omega]
          rfl
        | some a =>
          show Lib.pieceU l a (pos + 1) = Lib.pieceU l a pos ++ [l[pos]]
          rw [← Lib.pieceU_grow l a pos 1 (Nat.le_of_lt (h3 a rfl)), dr]
          rfl
    · have e : pos = l.length := by omega
      subst e
      rw [List.drop_length]
      exact spans_wl_end l (f + 1) st acc h3

theorem words_wl (l : List UInt8) : wordsP (mkB l) = (wl [] l).map mkB := by
  unfold wordsP
  rw [mkB_size, spans_wl l l.length 0 none [] (by omega) (by omega) (fun a h => by cases h)]
  rfl

/-- a word: some bytes, no blank among them -/
def isWord (l : List UInt8) : Bool := !l.isEmpty && l.all fun b => !blankR b.toNat
theorem wl_word (l : List UInt8) : ∀ (cur r : List UInt8), (l.all fun b => !blankR b.toNat) = true → wl cur (l ++ r) = wl (cur ++ l) r := by
  induction l with
  | nil => intro cur r _; simp
  | cons b t ih =>
    intro cur r h
    rw [List.all_cons, Bool.and_eq_true] at h
    have hb : ¬ blankR b.toNat = true := by have := h.1; simpa using this
    rw [List.cons_append]
    rw [wl_char _ _ _ hb, ih _ _ h.2, List.append_assoc]
    rfl
/-- words with one blank between two -/
def joinL : List (List UInt8) → List UInt8
  | [] => []
  | [x] => x
  | x :: y :: r => x ++ 32 :: joinL (y :: r)
theorem wl_join : ∀ ws : List (List UInt8), (∀ x ∈ ws, isWord x = true) → wl [] (joinL ws) = ws
  | [], _ => rfl
  | [x], h => by
    have hx := h x (by simp)
    unfold isWord at hx
    rw [Bool.and_eq_true] at hx
    have ne : x ≠ [] := by have := hx.1; simpa using this
    have := wl_word x [] [] hx.2
    rw [List.append_nil] at this
    show wl [] x = [x]
    rw [this, List.nil_append, wl_end _ ne]
  | x :: y :: r, h => by
    have hx := h x (by simp)
    unfold isWord at hx
    rw [Bool.and_eq_true] at hx
    have ne : x ≠ [] := by have := hx.1; simpa using this
    show wl [] (x ++ 32 :: joinL (y :: r)) = _
    rw [wl_word x [] _ hx.2, List.nil_append, wl_sep _ _ _ (by decide) ne, wl_join (y :: r) (fun z hz => h z (List.mem_cons_of_mem _ hz))]
end Go.Proofs.YthcdcbibbfdjmaaDoor
