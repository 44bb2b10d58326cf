/- A text's words: rune by rune as the library cuts them, and byte by byte (plain; of no program). -/
import Derived.Test.YthcdcbibbfdjmaaDoorBase
import Derived.Lib.FieldsP
import Derived.Lib.SpaceUEq
import Derived.Laws.RangeAny
import Derived.Test.YthcdcbibbfdjmaaDoorStyPl
import Derived.Test.YthcdcbibbfdjmaaDoorBackP
namespace Go.Proofs.YthcdcbibbfdjmaaDoor
open Go.RowKit
set_option linter.unusedVariables false

def blankR (r : Nat) : Bool := decide (r = 32 ∨ r = 9)
def spansB (s : ByteArray) : Nat → Nat → Option Nat → List (Nat × Nat) → List (Nat × Nat) × Option Nat
  | 0, _, st, acc => (acc, st)
  | f + 1, pos, st, acc =>
    if pos < s.size then
      (if blankR (s.get! pos).toNat = true then
        (match st with
         | some a => spansB s f (pos + 1) none (acc ++ [(a, pos)])
         | none => spansB s f (pos + 1) none acc)
       else spansB s f (pos + 1) (some (st.getD pos)) acc)
    else (acc, st)
theorem spansB_end (s : ByteArray) (f pos : Nat) (st : Option Nat) (acc : List (Nat × Nat)) (h : ¬ pos < s.size) : spansB s f pos st acc = (acc, st) := by
  cases f with
  | zero => rfl
  | succ f => simp [spansB, h]
theorem spansB_more (s : ByteArray) : ∀ (f g pos : Nat) (st : Option Nat) (acc : List (Nat × Nat)), s.size ≤ pos + f → s.size ≤ pos + g → spansB s f pos st acc = spansB s g pos st acc := by
  intro f
  induction f with
  | zero =>
    intro g pos st acc h1 h2
    rw [spansB_end s g pos st acc (by omega)]; rfl
  | succ f ih =>
    intro g pos st acc h1 h2
    by_cases lt : pos < s.size
    · obtain ⟨g, rfl⟩ : ∃ k, g = k + 1 := ⟨g - 1, by omega⟩
      unfold spansB
      rw [if_pos lt, if_pos lt]
      split
      · cases st
        · exact ih g _ _ _ (by omega) (by omega)
        · exact ih g _ _ _ (by omega) (by omega)
      · exact ih g _ _ _ (by omega) (by omega)
    · rw [spansB_end s _ pos st acc lt, spansB_end s _ pos st acc lt]
theorem spansB_skip (s : ByteArray) (k : Nat) : ∀ (f pos : Nat) (st : Option Nat) (acc : List (Nat × Nat)), pos + k ≤ s.size → (∀ j, j < k → blankR (s.get! (pos + j)).toNat = false) →
    spansB s (f + k) pos st acc = if k = 0 then spansB s f pos st acc else spansB s f (pos + k) (some (st.getD pos)) acc := by
  induction k with
  | zero => intro f pos st acc _ _; rfl
  | succ k ih =>
    intro f pos st acc h hb
    have b0 := hb 0 (by omega)
    rw [Nat.add_zero] at b0
    rw [if_neg (by omega), show f + (k + 1) = (f + k) + 1 by omega]
    conv => lhs; unfold spansB
    rw [if_pos (by omega), b0, if_neg (by decide), ih f (pos + 1) _ acc (by omega) (fun j hj => by have := hb (j + 1) (by omega); rwa [show pos + (j + 1) = pos + 1 + j by omega] at this)]
    split
    · rename_i k0; subst k0; rfl
    · rw [show pos + 1 + k = pos + (k + 1) by omega]; rfl

theorem blank_high (r : Nat) (h : 128 ≤ r) : blankR r = false := by unfold blankR; rw [decide_eq_false_iff_not]; omega

theorem spans_same (s : ByteArray) : ∀ (f g pos : Nat) (st : Option Nat) (acc : List (Nat × Nat)), s.size ≤ pos + f → s.size ≤ pos + g → Lib.spansFromP blankR s f pos st acc = spansB s g pos st acc := by
  intro f
  induction f with
  | zero =>
    intro g pos st acc h1 h2
    rw [spansB_end s g pos st acc (by omega)]; rfl
  | succ f ih =>
    intro g pos st acc h1 h2
    by_cases lt : pos < s.size
    · have gb : s.get! pos = s[pos]'lt := by have := get_at s pos lt; rwa [Nat.add_zero] at this
      by_cases a : (s.get! pos).toNat < 128
      · have d : Utf8.decode s pos = ((s.get! pos).toNat, 1) := by rw [gb] at a ⊢; exact decode_ascii s pos lt a
        obtain ⟨g, rfl⟩ : ∃ k, g = k + 1 := ⟨g - 1, by omega⟩
        unfold Lib.spansFromP spansB
        rw [if_pos lt, if_pos lt, d]
        simp only
        by_cases b : blankR (s.get! pos).toNat = true
        · rw [if_pos b, if_pos b]
          cases st
          · exact ih g _ _ _ (by omega) (by omega)
          · exact ih g _ _ _ (by omega) (by omega)
        · rw [if_neg b, if_neg b]
          cases st
          · exact ih g _ _ _ (by omega) (by omega)
          · exact ih g _ _ _ (by omega) (by omega)
      · have d := decode_high s pos lt (by rw [← gb]; omega)
        have le := Lib.decodeN_le_n' (s.size - pos) (s.get! pos).toNat (s.get! (pos + 1)).toNat (s.get! (pos + 2)).toNat (s.get! (pos + 3)).toNat (by omega)
        have cs := Lib.decodeN_conts (s.size - pos) (s.get! pos).toNat (s.get! (pos + 1)).toNat (s.get! (pos + 2)).toNat (s.get! (pos + 3)).toNat
        rw [← Lib.decode_at] at le cs
        obtain ⟨K, hK⟩ : ∃ K, (Utf8.decode s pos).2 = K := ⟨_, rfl⟩
        rw [hK] at le cs d
        have nb := blank_high _ d.1
        obtain ⟨k, rfl⟩ : ∃ k, g = k + K := ⟨g - K, by omega⟩
        have sk := spansB_skip s K k pos st acc (by omega) (fun j hj => by
          apply blank_high
          obtain ⟨c1, c2, c3, c4⟩ := cs
          have : j = 0 ∨ j = 1 ∨ j = 2 ∨ j = 3 := by omega
          rcases this with rfl | rfl | rfl | rfl
          · rw [Nat.add_zero]; omega
          · have := c1 (by omega); omega
          · have := c2 (by omega); omega
          · have := c3 (by omega); omega)
        rw [sk, if_neg (by omega)]
        unfold Lib.spansFromP
        rw [if_pos lt, nb, hK]
        simp only [Bool.false_eq_true, if_false]
        cases st
        · exact ih k _ _ _ (by omega) (by omega)
        · exact ih k _ _ _ (by omega) (by omega)
    · rw [spansB_end s _ pos st acc lt, Lib.spansFromP_end _ s _ pos st acc lt]
def wordsP (s : ByteArray) : List ByteArray := (Lib.closeSpans s (spansB s s.size 0 none [])).map fun x => s.extract x.1 x.2
theorem fields_words (s : ByteArray) : Lib.goFieldsP blankR s = wordsP s := by
  unfold Lib.goFieldsP Lib.spansOfP wordsP
  rw [spans_same s s.size s.size 0 none [] (by omega) (by omega)]
end Go.Proofs.YthcdcbibbfdjmaaDoor

/- Words of a row of bytes; words that were joined (plain; of no program). -/
namespace Go.Proofs.YthcdcbibbfdjmaaDoor
open Go.RowKit
set_option linter.unusedVariables false

def wl : List UInt8 → List UInt8 → List (List UInt8)
  | cur, [] => if cur = [] then [] else [cur]
  | cur, b :: t => if blankR b.toNat = true then (if cur = [] then wl [] t else cur :: wl [] t) else wl (cur ++ [b]) t
theorem wl_end (cur : List UInt8) (h : cur ≠ []) : wl cur [] = [cur] := by unfold wl; rw [if_neg h]
theorem wl_sep (cur t : List UInt8) (b : UInt8) (hb : blankR b.toNat = true) (h : cur ≠ []) : wl cur (b :: t) = cur :: wl [] t := by
  conv => lhs; unfold wl
  rw [if_pos hb, if_neg h]
theorem wl_sep0 (t : List UInt8) (b : UInt8) (hb : blankR b.toNat = true) : wl [] (b :: t) = wl [] t := by
  conv => lhs; unfold wl
  rw [if_pos hb, if_pos rfl]
theorem wl_char (cur t : List UInt8) (b : UInt8) (hb : ¬ blankR b.toNat = true) : wl cur (b :: t) = wl (cur ++ [b]) t := by
  conv => lhs; unfold wl
  rw [if_neg hb]
def mkB (l : List UInt8) : ByteArray := ⟨l.toArray⟩
theorem mkB_data (s : ByteArray) : s = mkB s.data.toList := by apply ByteArray.ext; simp [mkB]
theorem mkB_inj {l m : List UInt8} (h : mkB l = mkB m) : l = m := by have := congrArg (fun b : ByteArray => b.data.toList) h; simpa [mkB] using this
theorem mkB_size (l : List UInt8) : (mkB l).size = l.length := by simp [mkB, ByteArray.size]
theorem mkB_get (l : List UInt8) (k : Nat) (h : k < l.length) : (mkB l).get! k = l[k] := by
  have e := get_at (mkB l) k (by rw [mkB_size]; exact h)
  rw [Nat.add_zero] at e
  rw [e]
  rfl
theorem mkB_cut (l : List UInt8) (a b : Nat) : (mkB l).extract a b = mkB (Lib.pieceU l a b) := by
  apply ByteArray.ext
  rw [ByteArray.data_extract]
  apply Array.toList_inj.1
  simp [mkB, Lib.pieceU]

theorem spans_wl_end (l : List UInt8) (f : Nat) (st : Option Nat) (acc : List (Nat × Nat)) (h3 : ∀ a, st = some a → a < l.length) :
    (Lib.closeSpans (mkB l) (spansB (mkB l) f l.length st acc)).map (fun x => (mkB l).extract x.1 x.2) = acc.map (fun x => (mkB l).extract x.1 x.2) ++ (wl (Lib.openPiece l st l.length) []).map mkB := by
  rw [spansB_end _ _ _ _ _ (by rw [mkB_size]; omega)]
  cases st with
  | none =>
    show acc.map _ = acc.map _ ++ (wl [] []).map mkB
    rw [show wl [] [] = [] from rfl]
    simp
  | some a =>
    have ne := Lib.pieceU_ne l a l.length (h3 a rfl) (Nat.le_refl _)
    show (acc ++ [(a, (mkB l).size)]).map _ = acc.map _ ++ (wl (Lib.pieceU l a l.length) []).map mkB
    rw [wl_end _ ne, List.map_append, mkB_size]
    simp only [List.map_cons, List.map_nil, mkB_cut]

theorem spans_wl (l : List UInt8) : ∀ (f pos : Nat) (st : Option Nat) (acc : List (Nat × Nat)), l.length ≤ pos + f → pos ≤ l.length → (∀ a, st = some a → a < pos) →
    (Lib.closeSpans (mkB l) (spansB (mkB l) f pos st acc)).map (fun x => (mkB l).extract x.1 x.2) = acc.map (fun x => (mkB l).extract x.1 x.2) ++ (wl (Lib.openPiece l st pos) (l.drop pos)).map mkB := by
  intro f
  induction f with
  | zero =>
    intro pos st acc h1 h2 h3
    have e : pos = l.length := by omega
    subst e
    rw [List.drop_length]
    exact spans_wl_end l 0 st acc h3
  | succ f ih =>
    intro pos st acc h1 h2 h3
    by_cases lt : pos < l.length
    · have dr : l.drop pos = l[pos] :: l.drop (pos + 1) := List.drop_eq_getElem_cons lt
      have g := mkB_get l pos lt
      unfold spansB
      rw [if_pos (by rw [mkB_size]; exact lt), g, dr]
      by_cases b : blankR l[pos].toNat = true
      · rw [if_pos b]
        cases st with
        | none =>
          show (Lib.closeSpans (mkB l) (spansB (mkB l) f (pos + 1) none acc)).map _ = acc.map _ ++ (wl [] (l[pos] :: l.drop (pos + 1))).map mkB
          rw [ih (pos + 1) none acc (by omega) (by omega) (fun a h => by cases h), wl_sep0 _ _ b]
          rfl
        | some a =>
          have ne := Lib.pieceU_ne l a pos (h3 a rfl) h2
          show (Lib.closeSpans (mkB l) (spansB (mkB l) f (pos + 1) none (acc ++ [(a, pos)]))).map _ = acc.map _ ++ (wl (Lib.pieceU l a pos) (l[pos] :: l.drop (pos + 1))).map mkB
          rw [ih (pos + 1) none (acc ++ [(a, pos)]) (by omega) (by omega) (fun a h => by cases h), wl_sep _ _ _ b ne]
          show _ ++ (wl [] (l.drop (pos + 1))).map mkB = _
          simp only [List.map_append, List.map_cons, List.map_nil, mkB_cut, List.append_assoc, List.cons_append, List.nil_append]
      · rw [if_neg b, ih (pos + 1) (some (st.getD pos)) acc (by omega) (by omega) (fun a h => by
          cases st with
          | none => cases h; exact Nat.lt_succ_self _
          | some a' => cases h; have := h3 a' rfl; show a' < pos + 1; omega), wl_char _ _ _ b]
        congr 3
        cases st with
        | none =>
          show Lib.pieceU l pos (pos + 1) = [] ++ [l[pos]]
          unfold Lib.pieceU
          rw [dr, show pos + 1 - pos = 1 by omega]
          rfl
        | some a =>
          show Lib.pieceU l a (pos + 1) = Lib.pieceU l a pos ++ [l[pos]]
          rw [← Lib.pieceU_grow l a pos 1 (Nat.le_of_lt (h3 a rfl)), dr]
          rfl
    · have e : pos = l.length := by omega
      subst e
      rw [List.drop_length]
      exact spans_wl_end l (f + 1) st acc h3

theorem words_wl (l : List UInt8) : wordsP (mkB l) = (wl [] l).map mkB := by
  unfold wordsP
  rw [mkB_size, spans_wl l l.length 0 none [] (by omega) (by omega) (fun a h => by cases h)]
  rfl

/-- a word: some bytes, no blank among them -/
def isWord (l : List UInt8) : Bool := !l.isEmpty && l.all fun b => !blankR b.toNat
theorem wl_word (l : List UInt8) : ∀ (cur r : List UInt8), (l.all fun b => !blankR b.toNat) = true → wl cur (l ++ r) = wl (cur ++ l) r := by
  induction l with
  | nil => intro cur r _; simp
  | cons b t ih =>
    intro cur r h
    rw [List.all_cons, Bool.and_eq_true] at h
    have hb : ¬ blankR b.toNat = true := by have := h.1; simpa using this
    rw [List.cons_append]
    rw [wl_char _ _ _ hb, ih _ _ h.2, List.append_assoc]
    rfl
/-- words with one blank between two -/
def joinL : List (List UInt8) → List UInt8
  | [] => []
  | [x] => x
  | x :: y :: r => x ++ 32 :: joinL (y :: r)
theorem wl_join : ∀ ws : List (List UInt8), (∀ x ∈ ws, isWord x = true) → wl [] (joinL ws) = ws
  | [], _ => rfl
  | [x], h => by
    have hx := h x (by simp)
    unfold isWord at hx
    rw [Bool.and_eq_true] at hx
    have ne : x ≠ [] := by have := hx.1; simpa using this
    have := wl_word x [] [] hx.2
    rw [List.append_nil] at this
    show wl [] x = [x]
    rw [this, List.nil_append, wl_end _ ne]
  | x :: y :: r, h => by
    have hx := h x (by simp)
    unfold isWord at hx
    rw [Bool.and_eq_true] at hx
    have ne : x ≠ [] := by have := hx.1; simpa using this
    show wl [] (x ++ 32 :: joinL (y :: r)) = _
    rw [wl_word x [] _ hx.2, List.nil_append, wl_sep _ _ _ (by decide) ne, wl_join (y :: r) (fun z hz => h z (List.mem_cons_of_mem _ hz))]
end Go.Proofs.YthcdcbibbfdjmaaDoor

/- Words of a patch: what they are read as, and how a patch is written (plain). -/
namespace Go.Proofs.YthcdcbibbfdjmaaDoor
open Go.RowKit
set_option linter.unusedVariables false

/-- the attributes' names -/
def atN (n : Nat) : ByteArray := match n with
  | 0 => ⟨#[98, 111, 108, 100]⟩
  | 1 => ⟨#[102, 97, 105, 110, 116]⟩
  | 2 => ⟨#[105, 116, 97, 108, 105, 99]⟩
  | 3 => ⟨#[117, 110, 100, 101, 114]⟩
  | 4 => ⟨#[98, 108, 105, 110, 107]⟩
  | 5 => ⟨#[114, 101, 118, 101, 114, 115, 101]⟩
  | 6 => ⟨#[104, 105, 100, 100, 101, 110]⟩
  | 7 => ⟨#[115, 116, 114, 105, 107, 101]⟩
  | _ => ⟨#[]⟩
def onB : ByteArray := ⟨#[111, 110]⟩
def noB : ByteArray := ⟨#[110, 111, 45]⟩
def bitN (i : Nat) : B8 := BitVec.ofNat 8 (2 ^ i)
/-- the bit of an attribute's name -/
def attB (s : ByteArray) : B8 := match (List.range 8).find? (fun i => decide (s = atN i)) with
  | some i => bitN i
  | none => 0
/-- the bit of a name behind "no-" -/
def offB (s : ByteArray) : B8 := if s.extract 0 3 = noB then attB (s.extract 3 s.size) else 0

theorem attB_some (s : ByteArray) (i : Nat) (h : i < 8) (e : s = atN i) (hm : ∀ m, m < i → s ≠ atN m) : attB s = bitN i := by
  have f : (List.range 8).find? (fun j => decide (s = atN j)) = some i := by
    rw [List.find?_range_eq_some]
    exact ⟨by simpa using e, by simpa using h, fun j hj => by simpa using hm j hj⟩
  unfold attB
  rw [f]
theorem attB_none (s : ByteArray) (hm : ∀ m, m < 8 → s ≠ atN m) : attB s = 0 := by
  have f : (List.range 8).find? (fun j => decide (s = atN j)) = none := by
    rw [List.find?_range_eq_none]
    exact fun j hj => by simpa using hm j hj
  unfold attB
  rw [f]

/-- a word's colour -/
def colW (s : ByteArray) : Option Int :=
  if s = plainB then some 1 else match (List.range 256).find? (fun n => decide (s = atB n ∨ n < 16 ∧ s = nameB n)) with
    | some n => some (256 + (n : Int))
    | none => hexP s
theorem colW_word (s : ByteArray) : Word s (colW s) := by
  unfold colW
  by_cases p : s = plainB
  · rw [if_pos p]; exact Or.inl ⟨p, rfl⟩
  · rw [if_neg p]
    cases f : (List.range 256).find? (fun n => decide (s = atB n ∨ n < 16 ∧ s = nameB n)) with
    | some n =>
      have h1 := List.mem_of_find?_eq_some f
      have h2 := List.find?_some f
      exact Or.inr (Or.inl ⟨n, by simpa using h1, by simpa using h2, rfl⟩)
    | none =>
      rw [List.find?_eq_none] at f
      have g : ∀ n, n < 256 → ¬ (s = atB n ∨ n < 16 ∧ s = nameB n) := fun n hn => by simpa using f n (by simpa using hn)
      exact Or.inr (Or.inr ⟨p, fun n hn e => g n hn (Or.inl e), fun n hn e => g n (by omega) (Or.inr ⟨hn, e⟩), rfl⟩)
theorem colW_ne (s : ByteArray) (c : Int) (h : colW s = some c) : c ≠ 0 ∧ cnt c = c := by
  have w := colW_word s
  rw [h] at w
  rcases w with ⟨_, e⟩ | ⟨n, hn, _, e⟩ | ⟨_, _, _, e⟩
  · cases e; exact ⟨by decide, rfl⟩
  · cases e
    refine ⟨by omega, ?_⟩
    unfold cnt rightB
    rw [if_pos (by rw [decide_eq_true_iff]; omega)]
  · unfold hexP at e
    split at e
    · rename_i hh
      cases v : hexL 0 s.data.toList.tail with
      | none => rw [v] at e; cases e
      | some v' =>
        rw [v] at e
        have e : c = 16777216 + (v' : Int) := (Option.some.inj e)
        subst e
        have l6 : s.data.toList.tail.length = 6 := by
          rw [List.length_tail]
          have : s.data.toList.length = s.size := by simp
          omega
        have := hexL_bound s.data.toList.tail 0 v' 0 v (by decide)
        rw [l6] at this
        have b : v' < 16777216 := by simpa using this
        refine ⟨by omega, ?_⟩
        unfold cnt rightB
        rw [if_pos (by rw [decide_eq_true_iff]; omega)]
    · cases e

/-- what words are read as: the patch, or the error -/
def parL (p : Pat) : List ByteArray → Except Int Pat
  | [] => .ok p
  | x :: r =>
    if attB x ||| offB x ≠ 0 then
      (if (p.add ||| p.drop) &&& (attB x ||| offB x) ≠ 0 then .error 112 else parL { p with add := p.add ||| attB x, drop := p.drop ||| offB x } r)
    else if x = onB then
      (match r with
       | [] => .error 60
       | y :: r' => match colW y with
         | none => .error 60
         | some c => if p.bg ≠ 0 then .error 112 else parL { p with bg := c } r')
    else match colW x with
      | none => .error 60
      | some c => if p.fg ≠ 0 then .error 112 else parL { p with fg := c } r
def parseS (s : ByteArray) : Except Int Pat := if 65536 < s.size then .error 3 else parL emptyP (wordsP s)
end Go.Proofs.YthcdcbibbfdjmaaDoor

/- What is written is read again (plain). -/
namespace Go.Proofs.YthcdcbibbfdjmaaDoor
open Go.RowKit
set_option linter.unusedVariables false

def dropW (i : Nat) : ByteArray := noB ++ atN i
def bitsL (b : B8) : List Nat := (List.range 8).filter fun i => b.getLsbD i
/-- the words of a patch -/
def textL (q : Pat) : List ByteArray := (bitsL q.drop).map dropW ++ (bitsL q.add).map atN ++ (if q.fg = 0 then [] else [textB q.fg]) ++ (if q.bg = 0 then [] else [onB, textB q.bg])
def joinB (ws : List ByteArray) : ByteArray := mkB (joinL (ws.map fun s => s.data.toList))
def rightP (p : Pat) : Bool := rightB p.fg && rightB p.bg
def textS (p : Pat) : Option ByteArray := if rightP p = true then some (joinB (textL (toldP p))) else none

theorem att_names : ∀ i : Fin 8, attB (atN i.val) = bitN i.val ∧ offB (atN i.val) = 0 ∧ attB (dropW i.val) = 0 ∧ offB (dropW i.val) = bitN i.val ∧ bitN i.val ≠ 0 ∧ isWord (atN i.val).data.toList = true ∧ isWord (dropW i.val).data.toList = true := by decide +kernel

def orL (l : List Nat) : B8 := l.foldr (fun i b => bitN i ||| b) 0
theorem or_bits : ∀ b : B8, orL (bitsL b) = b := by decide +kernel
theorem bits_lt (b : B8) : (bitsL b).Nodup ∧ ∀ i ∈ bitsL b, i < 8 ∧ b.getLsbD i = true := by
  refine ⟨List.Pairwise.filter _ List.nodup_range, fun i hi => ?_⟩
  unfold bitsL at hi
  rw [List.mem_filter, List.mem_range] at hi
  exact hi
theorem bitN_bit (i j : Nat) (hi : i < 8) (hj : j < 8) : (bitN i).getLsbD j = decide (i = j) := by
  have h : ∀ i j : Fin 8, (bitN i.val).getLsbD j.val = decide (i.val = j.val) := by decide
  exact h ⟨i, hi⟩ ⟨j, hj⟩
theorem and_bit (x : B8) (i : Nat) (hi : i < 8) (h : x.getLsbD i = false) : x &&& bitN i = 0 := by
  apply b8_ext
  intro j hj
  have z : (0 : B8).getLsbD j = false := by simp
  rw [BitVec.getLsbD_and, bitN_bit i j hi hj, z]
  by_cases e : i = j
  · subst e; rw [h]; rfl
  · simp [e]

theorem b8_or0 (x : B8) : x ||| (0 : B8) = x := by simp
theorem b8_bit0 (j : Nat) : (0 : B8).getLsbD j = false := by simp

theorem par_drops (l : List Nat) : ∀ (p : Pat) (r : List ByteArray), l.Nodup → (∀ i ∈ l, i < 8 ∧ (p.add ||| p.drop).getLsbD i = false) →
    parL p (l.map dropW ++ r) = parL { p with drop := p.drop ||| orL l } r := by
  induction l with
  | nil => intro p r _ _; simp [orL]
  | cons i l ih =>
    intro p r nd h
    obtain ⟨n1, n2⟩ := List.nodup_cons.1 nd
    obtain ⟨hi, hb⟩ := h i (by simp)
    obtain ⟨a1, a2, a3, a4, a5, _⟩ := att_names ⟨i, hi⟩
    simp only at a1 a2 a3 a4 a5
    have z : (0 : B8) ||| bitN i = bitN i := by simp
    rw [List.map_cons, List.cons_append]
    conv => lhs; unfold parL
    rw [a3, a4, z, if_pos a5, if_neg (by rw [and_bit _ i hi hb]; simp), ih _ r n2]
    · simp only [orL, List.foldr_cons, b8_or0, BitVec.or_assoc]
    · intro j hj
      obtain ⟨hj8, hjb⟩ := h j (List.mem_cons_of_mem _ hj)
      refine ⟨hj8, ?_⟩
      have ne : i ≠ j := fun e => n1 (e ▸ hj)
      simp only [b8_bit0, Bool.or_false, BitVec.getLsbD_or, bitN_bit i j hi hj8] at hjb ⊢
      simp only [ne, decide_false, Bool.or_false]
      exact hjb
theorem par_adds (l : List Nat) : ∀ (p : Pat) (r : List ByteArray), l.Nodup → (∀ i ∈ l, i < 8 ∧ (p.add ||| p.drop).getLsbD i = false) →
    parL p (l.map atN ++ r) = parL { p with add := p.add ||| orL l } r := by
  induction l with
  | nil => intro p r _ _; simp [orL]
  | cons i l ih =>
    intro p r nd h
    obtain ⟨n1, n2⟩ := List.nodup_cons.1 nd
    obtain ⟨hi, hb⟩ := h i (by simp)
    obtain ⟨a1, a2, a3, a4, a5, _⟩ := att_names ⟨i, hi⟩
    simp only at a1 a2 a3 a4 a5
    have z : bitN i ||| (0 : B8) = bitN i := by simp
    rw [List.map_cons, List.cons_append]
    conv => lhs; unfold parL
    rw [a1, a2, z, if_pos a5, if_neg (by rw [and_bit _ i hi hb]; simp), ih _ r n2]
    · simp only [orL, List.foldr_cons, b8_or0, BitVec.or_assoc]
    · intro j hj
      obtain ⟨hj8, hjb⟩ := h j (List.mem_cons_of_mem _ hj)
      refine ⟨hj8, ?_⟩
      have ne : i ≠ j := fun e => n1 (e ▸ hj)
      simp only [b8_bit0, Bool.or_false, BitVec.getLsbD_or, bitN_bit i j hi hj8] at hjb ⊢
      simp only [ne, decide_false, Bool.or_false]
      exact hjb

abbrev colP (c : Int) : Prop := c = 1 ∨ (256 ≤ c ∧ c < 512) ∨ (16777216 ≤ c ∧ c < 33554432)
theorem at_heads : ∀ i : Fin 8, (atN i.val).data.toList.headD 0 ≠ 35 ∧ (atN i.val).data.toList.headD 0 ≠ 64 := by decide +kernel
theorem at_nameB : ∀ (i : Fin 8) (n : Fin 16), atN i.val ≠ nameB n.val := by decide +kernel
theorem at_plainB : ∀ (i : Fin 8), atN i.val ≠ plainB := by decide +kernel
theorem off_names : ∀ n : Fin 16, offB (nameB n.val) = 0 ∧ nameB n.val ≠ onB ∧ isWord (nameB n.val).data.toList = true := by decide +kernel
theorem off_at : ∀ n : Fin 256, offB (atB n.val) = 0 ∧ isWord (atB n.val).data.toList = true := by decide +kernel
theorem off_plain : offB plainB = 0 ∧ plainB ≠ onB ∧ isWord plainB.data.toList = true := by decide +kernel
theorem dgt_word : ∀ d : Fin 16, (!blankR (dgt d.val).toNat) = true := by decide +kernel
theorem digs_word (N : Nat) : ∀ k, ((digL 16 N k).all fun b => !blankR b.toNat) = true := by
  intro k
  induction k with
  | zero => rfl
  | succ k ih => rw [digL, List.all_cons, ih, Bool.and_true]; exact dgt_word ⟨N / 16 ^ k % 16, Nat.mod_lt _ (by decide)⟩

theorem text_is (c : Int) (h : colP c) : colW (textB c) = some c := (colW_word _).uniq (word_text c h)
theorem text_word (c : Int) (h : colP c) : attB (textB c) = 0 ∧ offB (textB c) = 0 ∧ textB c ≠ onB ∧ isWord (textB c).data.toList = true := by
  rcases h with rfl | ⟨h0, h1⟩ | ⟨h0, h1⟩
  · rw [show textB 1 = plainB from rfl]
    exact ⟨attB_none _ fun m hm e => at_plainB ⟨m, hm⟩ e.symm, off_plain⟩
  · by_cases c2 : c < 272
    · have e : textB c = nameB (c - 256).toNat := by unfold textB; rw [if_neg (by omega), if_pos ⟨h0, c2⟩]
      rw [e]
      have lt : (c - 256).toNat < 16 := by omega
      exact ⟨attB_none _ fun m hm e => at_nameB ⟨m, hm⟩ ⟨_, lt⟩ e.symm, off_names ⟨_, lt⟩⟩
    · have e : textB c = atB (c - 256).toNat := by unfold textB atB; rw [if_neg (by omega), if_neg (by omega), if_pos (by omega)]
      rw [e]
      obtain ⟨o1, o2⟩ := off_at ⟨(c - 256).toNat, by omega⟩
      exact ⟨attB_none _ fun m hm => head_ne (by rw [head_at]; have := (at_heads ⟨m, hm⟩).2; exact fun e => this e.symm), o1, head_ne (by rw [head_at]; decide), o2⟩
  · have e : textB c = ⟨(35 :: digL 16 (c - 16777216).toNat 6).toArray⟩ := by unfold textB; rw [if_neg (by omega), if_neg (by omega), if_neg (by omega), if_pos ⟨h0, h1⟩]
    have hd : (textB c).data.toList.headD 0 = 35 := by rw [e]; rfl
    refine ⟨attB_none _ fun m hm => head_ne (by rw [hd]; have := (at_heads ⟨m, hm⟩).1; exact fun e => this e.symm), ?_, head_ne (by rw [hd]; decide), ?_⟩
    · unfold offB
      rw [if_neg]
      intro e2
      have : ((textB c).extract 0 3).data.toList.headD 0 = 110 := by rw [e2]; rfl
      rw [e] at this
      rw [show (⟨(35 :: digL 16 (c - 16777216).toNat 6).toArray⟩ : ByteArray) = mkB (35 :: digL 16 (c - 16777216).toNat 6) from rfl, mkB_cut] at this
      revert this
      show ¬ (List.headD (List.take 3 (35 :: _)) 0 = 110)
      simp
    · rw [e]
      show isWord (35 :: digL 16 (c - 16777216).toNat 6) = true
      unfold isWord
      rw [List.all_cons, digs_word]
      rfl

/-- a patch as it counts -/
def okP (q : Pat) : Prop := (q.fg = 0 ∨ colP q.fg) ∧ (q.bg = 0 ∨ colP q.bg) ∧ ∀ i, i < 8 → (q.add.getLsbD i && q.drop.getLsbD i) = false

theorem par_text (q : Pat) (h : okP q) : parL emptyP (textL q) = .ok q := by
  obtain ⟨h1, h2, h3⟩ := h
  unfold textL
  obtain ⟨d1, d2⟩ := bits_lt q.drop
  obtain ⟨a1, a2⟩ := bits_lt q.add
  rw [List.append_assoc, List.append_assoc, par_drops _ _ _ d1 (fun i hi => ⟨(d2 i hi).1, by simp [emptyP]⟩), or_bits,
    par_adds _ _ _ a1 (fun i hi => ⟨(a2 i hi).1, by
      have := h3 i (a2 i hi).1
      rw [(a2 i hi).2] at this
      simp [emptyP]
      simpa using this⟩), or_bits]
  have e0 : (emptyP.drop ||| q.drop) = q.drop ∧ (emptyP.add ||| q.add) = q.add := by simp [emptyP]
  obtain ⟨qf, qb, qa, qd⟩ := q
  simp only at h1 h2 e0 ⊢
  rw [e0.1, e0.2]
  have tl : ∀ f : Int, parL ⟨f, emptyP.bg, qa, qd⟩ (if qb = 0 then [] else [onB, textB qb]) = .ok ⟨f, qb, qa, qd⟩ := by
    intro f
    rcases h2 with rfl | h2
    · rw [if_pos rfl]; rfl
    · have b0 : qb ≠ 0 := by rcases h2 with h | h | h <;> omega
      rw [if_neg b0]
      unfold parL
      rw [if_neg (by decide +kernel), if_pos rfl]
      simp only [text_is qb h2]
      rw [if_neg (by decide)]
      rfl
  rcases h1 with rfl | h1
  · rw [if_pos rfl, List.nil_append]; exact tl 0
  · have b0 : qf ≠ 0 := by rcases h1 with h | h | h <;> omega
    obtain ⟨t1, t2, t3, _⟩ := text_word qf h1
    rw [if_neg b0, List.singleton_append]
    conv => lhs; unfold parL
    rw [t1, t2, if_neg (by decide), if_neg t3]
    simp only [text_is qf h1]
    rw [if_neg (by decide)]
    exact tl qf
end Go.Proofs.YthcdcbibbfdjmaaDoor

/- There and back: patches and their words (plain). -/
namespace Go.Proofs.YthcdcbibbfdjmaaDoor
open Go.RowKit
set_option linter.unusedVariables false

theorem told_ok (p : Pat) : okP (toldP p) := by
  have c : ∀ x : Int, cnt x = 0 ∨ colP (cnt x) := by
    intro x
    unfold cnt rightB colP
    split
    · rename_i h; rw [decide_eq_true_iff] at h; omega
    · exact Or.inl rfl
  refine ⟨c _, c _, fun i hi => ?_⟩
  show (p.add.getLsbD i && (p.drop &&& ~~~p.add).getLsbD i) = false
  rw [BitVec.getLsbD_and, BitVec.getLsbD_not]
  cases p.add.getLsbD i <;> simp
theorem colP_cnt (c : Int) (h : c = 0 ∨ colP c) : cnt c = c ∧ rightB c = true := by
  have r : rightB c = true := by unfold rightB; rw [decide_eq_true_iff]; rcases h with h | h | h | h <;> omega
  exact ⟨by unfold cnt; rw [if_pos r], r⟩
theorem ok_told (q : Pat) (h : okP q) : toldP q = q := by
  obtain ⟨h1, h2, h3⟩ := h
  have e : q.drop &&& ~~~q.add = q.drop := by
    apply b8_ext
    intro i hi
    have := h3 i hi
    rw [BitVec.getLsbD_and, BitVec.getLsbD_not]
    cases ha : q.add.getLsbD i <;> cases hd : q.drop.getLsbD i <;> simp_all
  unfold toldP
  rw [(colP_cnt _ h1).1, (colP_cnt _ h2).1, e]
theorem ok_right (q : Pat) (h : okP q) : rightP q = true := by
  unfold rightP
  rw [(colP_cnt _ h.1).2, (colP_cnt _ h.2.1).2]
  rfl

theorem bit_zero {x y : B8} (h : ¬ x &&& y ≠ 0) (i : Nat) : (x.getLsbD i && y.getLsbD i) = false := by
  have z : x &&& y = 0 := by simpa using h
  have := congrArg (fun b : B8 => b.getLsbD i) z
  simp only [BitVec.getLsbD_and] at this
  rw [this]
  simp

theorem att_off (x : ByteArray) (i : Nat) (hi : i < 8) : ((attB x).getLsbD i && (offB x).getLsbD i) = false := by
  by_cases h : attB x = 0
  · rw [h]; simp
  · have e : ∃ j : Fin 8, x = atN j.val := by
      cases f : (List.range 8).find? (fun i => decide (x = atN i)) with
      | none => unfold attB at h; rw [f] at h; exact absurd rfl h
      | some j =>
        have h1 := List.mem_of_find?_eq_some f
        have h2 := List.find?_some f
        exact ⟨⟨j, by simpa using h1⟩, by simpa using h2⟩
    obtain ⟨j, rfl⟩ := e
    rw [(att_names j).2.1]
    simp

theorem par_ok : ∀ (n : Nat) (ws : List ByteArray) (p q : Pat), ws.length ≤ n → okP p → parL p ws = .ok q → okP q := by
  intro n
  induction n with
  | zero =>
    intro ws p q hn hp h
    have : ws = [] := List.eq_nil_of_length_eq_zero (by omega)
    subst this
    unfold parL at h
    cases h
    exact hp
  | succ n ih =>
    intro ws p q hn hp h
    cases ws with
    | nil => unfold parL at h; cases h; exact hp
    | cons x r =>
      simp only [List.length_cons] at hn
      obtain ⟨h1, h2, h3⟩ := hp
      have cw : ∀ (s : ByteArray) (c : Int), colW s = some c → c = 0 ∨ colP c := fun s c hc => by
        obtain ⟨a, b⟩ := colW_ne s c hc
        rw [← b]
        unfold cnt rightB colP
        split
        · rename_i g; rw [decide_eq_true_iff] at g; omega
        · exact Or.inl rfl
      unfold parL at h
      split at h
      · split at h
        · cases h
        · rename_i nb
          refine ih r _ q (by omega) ?_ h
          refine ⟨h1, h2, fun i hi => ?_⟩
          have b := bit_zero nb i
          have a := h3 i hi
          have c := att_off x i hi
          simp only [BitVec.getLsbD_or] at b ⊢
          revert a b c
          cases p.add.getLsbD i <;> cases p.drop.getLsbD i <;> cases (attB x).getLsbD i <;> cases (offB x).getLsbD i <;> simp
      · split at h
        · split at h
          · cases h
          · rename_i y r' 
            split at h
            · cases h
            · rename_i c hc
              split at h
              · cases h
              · refine ih r' _ q (by simp only [List.length_cons] at hn; omega) ?_ h
                exact ⟨h1, cw _ _ hc, h3⟩
        · split at h
          · cases h
          · rename_i c hc
            split at h
            · cases h
            · refine ih r _ q (by omega) ?_ h
              exact ⟨cw _ _ hc, h2, h3⟩

theorem parse_ok (s : ByteArray) (q : Pat) (h : parseS s = .ok q) : okP q := by
  unfold parseS at h
  split at h
  · cases h
  · exact par_ok _ _ _ q (Nat.le_refl _) ⟨Or.inl rfl, Or.inl rfl, fun i hi => by simp [emptyP]⟩ h

theorem join_len : ∀ (ws : List (List UInt8)) (m : Nat), (∀ x ∈ ws, x.length ≤ m) → (joinL ws).length ≤ ws.length * (m + 1)
  | [], m, _ => by simp [joinL]
  | [x], m, h => by have := h x (by simp); simp [joinL]; omega
  | x :: y :: r, m, h => by
    have hx := h x (by simp)
    have := join_len (y :: r) m (fun z hz => h z (List.mem_cons_of_mem _ hz))
    show (x ++ 32 :: joinL (y :: r)).length ≤ _
    rw [List.length_append, List.length_cons, List.length_cons, Nat.add_mul]
    omega
theorem names_len : ∀ i : Fin 8, (atN i.val).data.toList.length ≤ 16 ∧ (dropW i.val).data.toList.length ≤ 16 := by decide +kernel
theorem text_words (q : Pat) (h : okP q) : (∀ x ∈ (textL q).map (fun s => s.data.toList), isWord x = true ∧ x.length ≤ 16) ∧ (textL q).length ≤ 19 := by
  obtain ⟨h1, h2, _⟩ := h
  have tw : ∀ c : Int, c ≠ 0 → (c = 0 ∨ colP c) → isWord (textB c).data.toList = true ∧ (textB c).data.toList.length ≤ 16 := fun c hc h => by
    rcases h with h | h
    · exact absurd h hc
    · have a := (text_word c h).2.2.2
      have b := text_size c
      exact ⟨a, by rw [show (textB c).data.toList.length = (textB c).size by simp]; exact b⟩
  have bl : ∀ b : B8, (bitsL b).length ≤ 8 := fun b => by unfold bitsL; exact Nat.le_trans (List.length_filter_le _ _) (by simp)
  constructor
  · intro x hx
    rw [List.mem_map] at hx
    obtain ⟨s, hs, rfl⟩ := hx
    unfold textL at hs
    rw [List.mem_append, List.mem_append, List.mem_append, List.mem_map, List.mem_map] at hs
    rcases hs with ((⟨i, hi, rfl⟩ | ⟨i, hi, rfl⟩) | hs) | hs
    · have a := (bits_lt q.drop).2 i hi
      exact ⟨(att_names ⟨i, a.1⟩).2.2.2.2.2.2, (names_len ⟨i, a.1⟩).2⟩
    · have a := (bits_lt q.add).2 i hi
      exact ⟨(att_names ⟨i, a.1⟩).2.2.2.2.2.1, (names_len ⟨i, a.1⟩).1⟩
    · split at hs
      · cases hs
      · rename_i hc
        rw [List.mem_singleton] at hs
        subst hs
        exact tw _ hc h1
    · split at hs
      · cases hs
      · rename_i hc
        rcases List.mem_cons.1 hs with e | e
        · subst e; exact ⟨by decide +kernel, by decide +kernel⟩
        · rw [List.mem_singleton] at e
          subst e
          exact tw _ hc h2
  · unfold textL
    have a := bl q.drop
    have b := bl q.add
    rw [List.length_append, List.length_append, List.length_append, List.length_map, List.length_map]
    have c : (if q.fg = 0 then ([] : List ByteArray) else [textB q.fg]).length ≤ 1 := by split <;> simp
    have d : (if q.bg = 0 then ([] : List ByteArray) else [onB, textB q.bg]).length ≤ 2 := by split <;> simp
    omega

theorem parse_text (q : Pat) (h : okP q) : parseS (joinB (textL q)) = .ok q ∧ (joinB (textL q)).size ≤ 65536 := by
  obtain ⟨w1, w2⟩ := text_words q h
  have sz : (joinB (textL q)).size ≤ 65536 := by
    unfold joinB
    rw [mkB_size]
    have := join_len ((textL q).map fun s => s.data.toList) 16 (fun x hx => (w1 x hx).2)
    rw [List.length_map] at this
    omega
  refine ⟨?_, sz⟩
  have wd : wordsP (joinB (textL q)) = textL q := by
    unfold joinB
    rw [words_wl, wl_join _ (fun x hx => (w1 x hx).1), List.map_map]
    conv => rhs; rw [← List.map_id (textL q)]
    apply List.map_congr_left
    intro s _
    exact (mkB_data s).symm
  unfold parseS
  rw [if_neg (by omega), wd, par_text q h]

/-- what is written is read as it counts -/
theorem text_back (p : Pat) (t : ByteArray) (h : textS p = some t) : parseS t = .ok (thenP p emptyP) := by
  unfold textS at h
  split at h
  · cases h
    rw [(then_empty p).2]
    exact (parse_text _ (told_ok p)).1
  · cases h
/-- what is read can be written, and is read as the same -/
theorem parse_back (s : ByteArray) (q : Pat) (h : parseS s = .ok q) : ∃ t, textS q = some t ∧ parseS t = .ok q := by
  have o := parse_ok s q h
  refine ⟨joinB (textL q), ?_, ?_⟩
  · unfold textS; rw [if_pos (ok_right q o), ok_told q o]
  · exact (parse_text q o).1
end Go.Proofs.YthcdcbibbfdjmaaDoor
