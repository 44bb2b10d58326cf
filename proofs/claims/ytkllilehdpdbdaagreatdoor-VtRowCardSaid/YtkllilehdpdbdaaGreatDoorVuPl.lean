/- Characters, as bytes, are read again (plain; of no program). -/
import Derived.Test.YtkllilehdpdbdaaGreatDoorVtPl
import Derived.Test.YtkllilehdpdbdaaGreatDoorVtZ
namespace Go.Proofs.YtkllilehdpdbdaaGreatDoor
open Go.RowKit
set_option linter.unusedVariables false
set_option linter.unusedSimpArgs false
set_option linter.unusedSimpArgs false

theorem barr_byt (l : List Int) (i : Nat) (x : Int) (h : l[i]? = some x) (h0 : 0 ≤ x) (h1 : x < 256) : byt (barr l) i = x.toNat := by
  have lt := (List.getElem?_eq_some_iff.1 h).1
  have e := (List.getElem?_eq_some_iff.1 h).2
  unfold byt
  rw [get_at _ _ (by rw [barr_size]; exact lt)]
  have : (barr l)[i]'(by rw [barr_size]; exact lt) = UInt8.ofNat x.toNat := by
    show (List.toArray (l.map fun n => UInt8.ofNat n.toNat))[i]'(by simpa using lt) = _
    simp [e]
  rw [this, UInt8.toNat_ofNat']
  omega
theorem lead1 (b : Nat) (h : b < 128) : leadN b = (1, 0, 0) := by unfold leadN; rw [if_pos h]
theorem lead2 (b : Nat) (h : 194 ≤ b ∧ b < 224) : leadN b = (2, 128, 191) := by unfold leadN; rw [if_neg (by omega), if_neg (by omega), if_pos (by omega)]
theorem lead3 (b : Nat) (h : 224 ≤ b ∧ b < 240) : leadN b = (3, if b = 224 then 160 else 128, if b = 237 then 159 else 191) := by
  unfold leadN
  rw [if_neg (by omega), if_neg (by omega), if_neg (by omega)]
  by_cases a : b = 224
  · rw [if_pos a, if_pos a, if_neg (by omega)]
  · rw [if_neg a, if_neg a]
    by_cases c : b = 237
    · rw [if_pos c, if_pos c]
    · rw [if_neg c, if_neg c, if_pos (by omega)]
theorem lead4 (b : Nat) (h : 240 ≤ b ∧ b ≤ 244) : leadN b = (4, if b = 240 then 144 else 128, if b = 244 then 143 else 191) := by
  unfold leadN
  rw [if_neg (by omega), if_neg (by omega), if_neg (by omega), if_neg (by omega), if_neg (by omega), if_neg (by omega)]
  by_cases a : b = 240
  · rw [if_pos a, if_pos a, if_neg (by omega)]
  · rw [if_neg a, if_neg a]
    by_cases c : b = 244
    · rw [if_neg (by omega), if_pos c, if_pos c]
    · rw [if_pos (by omega), if_neg c]
theorem goO_goodA (t : ByteArray) (f lo hi i : Nat) (h : ¬ i = t.size) (hb : ¬ (byt t i < lo ∨ hi < byt t i)) : goO t (f + 1) lo hi i = goO t f 128 191 (i + 1) := by
  conv => lhs; unfold goO
  rw [if_neg h, if_neg hb]
theorem goO_end (t : ByteArray) (f lo hi i : Nat) (h : i = t.size) : goO t (f + 1) lo hi i = true := by
  unfold goO
  rw [if_pos h]
theorem openB_of {s : ByteArray} {b k lo hi : Nat} (hb : byt s 0 = b) (h : leadN b = (k + 2, lo, hi)) : openB s = goO s (k + 1) lo hi 1 := by
  unfold openB
  rw [hb, h]
  simp only
  rw [decide_eq_true (by omega), Bool.true_and]
  rfl
theorem goO_nil (s : ByteArray) (lo hi i : Nat) : goO s 0 lo hi i = false := rfl
/-- a character's bytes end a character, and no fewer do -/
theorem char_open (r : Int) (l : List Int) (hl : ∀ b ∈ l, 0 ≤ b ∧ b < 256) : openB (barr (bytesI r ++ l)) = false ∧ ∀ k, 0 < k → k < (bytesI r).length → openB (barr ((bytesI r).take k)) = true := by
  have h := charI_rng r
  have hs : charI r < 55296 ∨ 57343 < charI r := by unfold charI; split <;> omega
  unfold bytesI
  generalize hc : charI r = c at *
  obtain ⟨n, rfl⟩ : ∃ n : Nat, c = (n : Int) := ⟨c.toNat, by omega⟩
  clear hc
  by_cases c1 : (n : Int) < 128
  · rw [if_pos c1]
    have b0 := barr_byt ([(n : Int)] ++ l) 0 n rfl (by omega) (by omega)
    rw [Int.toNat_natCast] at b0
    refine ⟨?_, fun k k0 k1 => by simp at k1; omega⟩
    · unfold openB
      rw [b0, lead1 n (by omega)]
      rfl
  rw [if_neg c1]
  by_cases c2 : (n : Int) < 2048
  · rw [if_pos c2]
    have sz : (barr ([192 + (n : Int) / 64, 128 + (n : Int) % 64] ++ l)).size = 2 + l.length := by rw [barr_size]; simp; omega
    have b0 := barr_byt ([192 + (n : Int) / 64, 128 + (n : Int) % 64] ++ l) 0 _ rfl (by omega) (by omega)
    have b1 := barr_byt ([192 + (n : Int) / 64, 128 + (n : Int) % 64] ++ l) 1 _ rfl (by omega) (by omega)
    have e0 := lead2 (192 + (n : Int) / 64).toNat (by omega)
    refine ⟨?_, fun k k0 k1 => ?_⟩
    · rw [openB_of b0 e0, goO_goodA _ _ _ _ _ (by rw [sz]; omega) (by rw [b1]; omega)]
      rfl
    · have : k = 1 := by simp at k1; omega
      subst this
      have b0 := barr_byt [192 + (n : Int) / 64] 0 _ rfl (by omega) (by omega)
      show openB (barr [192 + (n : Int) / 64]) = true
      rw [openB_of b0 e0, goO_end _ _ _ _ _ (by rw [barr_size]; rfl)]
  rw [if_neg c2]
  by_cases c3 : (n : Int) < 65536
  · rw [if_pos c3]
    obtain ⟨L, hL⟩ : ∃ L, L = [224 + (n : Int) / 4096, 128 + (n : Int) / 64 % 64, 128 + (n : Int) % 64] := ⟨_, rfl⟩
    rw [← hL]
    have sz : (barr (L ++ l)).size = 3 + l.length := by rw [barr_size, hL]; simp; omega
    have b0 := barr_byt (L ++ l) 0 (224 + (n : Int) / 4096) (by rw [hL]; rfl) (by omega) (by omega)
    have b1 := barr_byt (L ++ l) 1 (128 + (n : Int) / 64 % 64) (by rw [hL]; rfl) (by omega) (by omega)
    have b2 := barr_byt (L ++ l) 2 (128 + (n : Int) % 64) (by rw [hL]; rfl) (by omega) (by omega)
    have e0 := lead3 (224 + (n : Int) / 4096).toNat (by omega)
    have g1 : ¬ ((128 + (n : Int) / 64 % 64).toNat < (if (224 + (n : Int) / 4096).toNat = 224 then 160 else 128) ∨ (if (224 + (n : Int) / 4096).toNat = 237 then 159 else 191) < (128 + (n : Int) / 64 % 64).toNat) := by
      split <;> split <;> omega
    refine ⟨?_, fun k k0 k1 => ?_⟩
    · rw [openB_of b0 e0, goO_goodA _ _ _ _ _ (by rw [sz]; omega) (by rw [b1]; exact g1), goO_goodA _ _ _ _ _ (by rw [sz]; omega) (by rw [b2]; omega)]
      rfl
    · rw [hL] at k1 ⊢
      have : k = 1 ∨ k = 2 := by simp at k1; omega
      rcases this with rfl | rfl
      · have b0 := barr_byt [224 + (n : Int) / 4096] 0 _ rfl (by omega) (by omega)
        show openB (barr [224 + (n : Int) / 4096]) = true
        rw [openB_of b0 e0, goO_end _ _ _ _ _ (by rw [barr_size]; rfl)]
      · have b0 := barr_byt [224 + (n : Int) / 4096, 128 + (n : Int) / 64 % 64] 0 _ rfl (by omega) (by omega)
        have b1 := barr_byt [224 + (n : Int) / 4096, 128 + (n : Int) / 64 % 64] 1 _ rfl (by omega) (by omega)
        show openB (barr [224 + (n : Int) / 4096, 128 + (n : Int) / 64 % 64]) = true
        rw [openB_of b0 e0, goO_goodA _ _ _ _ _ (by rw [barr_size]; simp) (by rw [b1]; exact g1), goO_end _ _ _ _ _ (by rw [barr_size]; rfl)]
  · rw [if_neg c3]
    obtain ⟨L, hL⟩ : ∃ L, L = [240 + (n : Int) / 262144, 128 + (n : Int) / 4096 % 64, 128 + (n : Int) / 64 % 64, 128 + (n : Int) % 64] := ⟨_, rfl⟩
    rw [← hL]
    have sz : (barr (L ++ l)).size = 4 + l.length := by rw [barr_size, hL]; simp; omega
    have b0 := barr_byt (L ++ l) 0 (240 + (n : Int) / 262144) (by rw [hL]; rfl) (by omega) (by omega)
    have b1 := barr_byt (L ++ l) 1 (128 + (n : Int) / 4096 % 64) (by rw [hL]; rfl) (by omega) (by omega)
    have b2 := barr_byt (L ++ l) 2 (128 + (n : Int) / 64 % 64) (by rw [hL]; rfl) (by omega) (by omega)
    have b3 := barr_byt (L ++ l) 3 (128 + (n : Int) % 64) (by rw [hL]; rfl) (by omega) (by omega)
    have e0 := lead4 (240 + (n : Int) / 262144).toNat (by omega)
    have g1 : ¬ ((128 + (n : Int) / 4096 % 64).toNat < (if (240 + (n : Int) / 262144).toNat = 240 then 144 else 128) ∨ (if (240 + (n : Int) / 262144).toNat = 244 then 143 else 191) < (128 + (n : Int) / 4096 % 64).toNat) := by
      split <;> split <;> omega
    refine ⟨?_, fun k k0 k1 => ?_⟩
    · rw [openB_of b0 e0, goO_goodA _ _ _ _ _ (by rw [sz]; omega) (by rw [b1]; exact g1), goO_goodA _ _ _ _ _ (by rw [sz]; omega) (by rw [b2]; omega), goO_goodA _ _ _ _ _ (by rw [sz]; omega) (by rw [b3]; omega)]
      rfl
    · rw [hL] at k1 ⊢
      have : k = 1 ∨ k = 2 ∨ k = 3 := by simp at k1; omega
      rcases this with rfl | rfl | rfl
      · have b0 := barr_byt [240 + (n : Int) / 262144] 0 _ rfl (by omega) (by omega)
        show openB (barr [240 + (n : Int) / 262144]) = true
        rw [openB_of b0 e0, goO_end _ _ _ _ _ (by rw [barr_size]; rfl)]
      · have b0 := barr_byt [240 + (n : Int) / 262144, 128 + (n : Int) / 4096 % 64] 0 _ rfl (by omega) (by omega)
        have b1 := barr_byt [240 + (n : Int) / 262144, 128 + (n : Int) / 4096 % 64] 1 _ rfl (by omega) (by omega)
        show openB (barr [240 + (n : Int) / 262144, 128 + (n : Int) / 4096 % 64]) = true
        rw [openB_of b0 e0, goO_goodA _ _ _ _ _ (by rw [barr_size]; simp) (by rw [b1]; exact g1), goO_end _ _ _ _ _ (by rw [barr_size]; rfl)]
      · have b0 := barr_byt [240 + (n : Int) / 262144, 128 + (n : Int) / 4096 % 64, 128 + (n : Int) / 64 % 64] 0 _ rfl (by omega) (by omega)
        have b1 := barr_byt [240 + (n : Int) / 262144, 128 + (n : Int) / 4096 % 64, 128 + (n : Int) / 64 % 64] 1 _ rfl (by omega) (by omega)
        have b2 := barr_byt [240 + (n : Int) / 262144, 128 + (n : Int) / 4096 % 64, 128 + (n : Int) / 64 % 64] 2 _ rfl (by omega) (by omega)
        show openB (barr [240 + (n : Int) / 262144, 128 + (n : Int) / 4096 % 64, 128 + (n : Int) / 64 % 64]) = true
        rw [openB_of b0 e0, goO_goodA _ _ _ _ _ (by rw [barr_size]; simp) (by rw [b1]; exact g1), goO_goodA _ _ _ _ _ (by rw [barr_size]; simp) (by rw [b2]; omega), goO_end _ _ _ _ _ (by rw [barr_size]; rfl)]

/-! a character that is fed -/
theorem pushB_barr (l : List Int) (b : Int) : pushB (barr l) b = barr (l ++ [b]) := by
  unfold pushB barr
  apply ByteArray.ext
  simp [ByteArray.data_append]
theorem cert_openA {s : ByteArray} (h : openB s = true) : certB s = ([], s) := by
  unfold certB
  have p := open_pos h
  obtain ⟨m, hm⟩ : ∃ m, s.size = m + 1 := ⟨s.size - 1, by omega⟩
  rw [hm, certF, if_neg (by omega), if_pos h]
theorem cert_char (r : Int) : certB (charB r) = ([charI r], zB) := by
  have o := char_open r [] (by simp)
  have d := dec_char r [] (by simp)
  have p := bytesI_len r
  have c := charI_rng r
  rw [List.append_nil] at o d
  unfold certB charB
  have sz := barr_size (bytesI r)
  obtain ⟨m, hm⟩ : ∃ m, (barr (bytesI r)).size = m + 1 := ⟨(barr (bytesI r)).size - 1, by omega⟩
  rw [hm, certF, if_neg (by omega), if_neg (by rw [o.1]; decide), d]
  simp only
  have e : (barr (bytesI r)).extract (bytesI r).length (barr (bytesI r)).size = zB := by
    have := barr_drop (bytesI r) []
    rw [List.append_nil] at this
    exact this
  rw [e, cert_nil]
  simp only [Prod.mk.injEq, List.cons.injEq, and_true]
  omega
/-- at rest, with nothing kept: a character's bytes are that character -/
theorem feed_char {t : Trm} (h0 : t.state = 0) (hk : t.kept = zB) (r : Int) : feedT t (bytesI r) = runeT t (charI r) := by
  have p := bytesI_len r
  have o := (char_open r [] (by simp)).2
  -- the bytes ahead of the last one are kept
  have st : ∀ k, k < (bytesI r).length → feedT t ((bytesI r).take k) = { t with kept := barr ((bytesI r).take k) } := by
    intro k
    induction k with
    | zero =>
      intro _
      show t = { t with kept := barr [] }
      rw [show barr [] = zB from rfl, ← hk]
    | succ k ih =>
      intro hk1
      have lt : k < (bytesI r).length := by omega
      rw [List.take_add_one, List.getElem?_eq_getElem lt]
      unfold feedT at ih ⊢
      rw [List.foldl_append, ih lt]
      show takeT { t with kept := barr ((bytesI r).take k) } _ = _
      unfold takeT
      rw [if_pos h0]
      unfold takeG
      rw [pushB_barr]
      have e : (bytesI r).take k ++ [(bytesI r)[k]] = (bytesI r).take (k + 1) := by rw [List.take_add_one, List.getElem?_eq_getElem lt]; rfl
      simp only
      rw [e, cert_openA (o (k + 1) (by omega) hk1)]
      show runesT _ [] = _
      rw [show (bytesI r).take k ++ (some (bytesI r)[k]).toList = (bytesI r).take (k + 1) from e]
      rfl
  have lt : (bytesI r).length - 1 < (bytesI r).length := by omega
  have e : bytesI r = (bytesI r).take ((bytesI r).length - 1) ++ [(bytesI r)[(bytesI r).length - 1]] := by
    have := List.take_append_getElem lt
    rw [show (bytesI r).length - 1 + 1 = (bytesI r).length by omega, List.take_length] at this
    exact this.symm
  conv => lhs; rw [e]
  unfold feedT at st ⊢
  rw [List.foldl_append, st _ lt]
  show takeT { t with kept := barr ((bytesI r).take ((bytesI r).length - 1)) } _ = _
  unfold takeT
  rw [if_pos h0]
  unfold takeG
  rw [pushB_barr, ← e]
  simp only
  rw [show barr (bytesI r) = charB r from rfl, cert_char]
  show runesT { t with kept := zB } [charI r] = _
  rw [← hk]
  rfl
end Go.Proofs.YtkllilehdpdbdaaGreatDoor

/- Clusters that are fed to a new terminal stand in its first row (plain; of no program). -/
namespace Go.Proofs.YtkllilehdpdbdaaGreatDoor
open Go.RowKit
set_option linter.unusedVariables false
set_option linter.unusedSimpArgs false

theorem takeD (l : List Int) (k i : Nat) (h : i < k) : (l.take k).getD i 0 = l.getD i 0 := by
  rw [List.getD_eq_getElem?_getD, List.getD_eq_getElem?_getD, List.getElem?_take, if_pos h]
theorem growK_take (l : List Int) (base : Int) (k : Nat) : ∀ f n, 1 ≤ n → n ≤ k → growK (l.take k) base f n = min k (growK l base f n)
  | 0, n, _, hn => by unfold growK; omega
  | f + 1, n, h1, hn => by
    by_cases g : n < l.length ∧ takesK base (l.getD (n - 1) 0) (l.getD n 0) = true
    · rw [growK_go l base f n g]
      rcases Nat.lt_or_ge n k with lt | ge
      · rw [growK_go (l.take k) base f n ⟨by rw [List.length_take]; omega, by rw [takeD _ _ _ (by omega), takeD _ _ _ lt]; exact g.2⟩, growK_take l base k f (n + 1) (by omega) lt]
      · have e : n = k := by omega
        have b := growK_bounds l base f (n + 1) (by omega)
        rw [growK_stop _ _ _ _ (by rw [List.length_take]; omega)]
        omega
    · rw [growK_stop l base (f + 1) n g, growK_stop _ _ _ _ (fun z => ?_)]
      · omega
      · have zl := z.1
        rw [List.length_take] at zl
        rw [takeD _ _ _ (by omega), takeD _ _ _ (by omega)] at z
        exact g ⟨by omega, z.2⟩
theorem first_take (l : List Int) (k : Nat) (hk : 1 ≤ k) (hl : l ≠ []) : firstC (l.take k) = min k (firstC l) := by
  have b := firstC_bounds l hl
  have ne : l.take k ≠ [] := by
    intro z
    have := congrArg List.length z
    rw [List.length_take, List.length_nil] at this
    have := List.length_pos_iff.2 hl
    omega
  have b2 := firstC_bounds (l.take k) ne
  rw [List.length_take] at b2
  by_cases k1 : k = 1
  · omega
  unfold firstC
  rw [takeD _ _ _ (by omega)]
  by_cases c : kindI (l.getD 0 0) = 1
  · rw [if_pos c, if_pos c]
    omega
  · rw [if_neg c, if_neg c]
    have bk : beginK (l.take k) = beginK l := by
      unfold beginK
      rw [takeD _ _ _ (by omega), takeD _ _ _ (by omega), List.length_take]
      have : 1 < min k l.length ↔ 1 < l.length := by omega
      simp only [this]
    rw [bk]
    refine growK_take l _ k _ _ ?_ ?_
    · unfold beginK; split <;> omega
    · unfold beginK; split <;> omega
/-- a text of runes that is one cluster -/
structure OneC (c : List Int) : Prop where
  ne : c ≠ []
  whole : firstC c = c.length
  valid : ∀ r ∈ c, charI r = r
theorem OneC.take {c : List Int} (h : OneC c) {k : Nat} (h1 : 1 ≤ k) (h2 : k ≤ c.length) : OneC (c.take k) := by
  refine ⟨?_, ?_, fun r m => h.valid r (List.mem_of_mem_take m)⟩
  · intro z
    have := congrArg List.length z
    rw [List.length_take, List.length_nil] at this
    omega
  · rw [first_take c k h1 h.ne, h.whole, List.length_take]
theorem map_valid {l : List Int} (h : ∀ r ∈ l, charI r = r) : l.map charI = l := by
  conv => rhs; rw [← List.map_id l]
  exact List.map_congr_left (fun r m => h r m)
theorem OneC.split {c : List Int} (h : OneC c) : splitB (barr (textI c)) = [(barr (textI c), wideC c)] := by
  unfold splitB
  rw [runes_text, map_valid h.valid, clL_cons c h.ne, h.whole, List.take_length, List.drop_length, clL_nil]
  rfl
theorem OneC.one {c : List Int} (h : OneC c) : oneB (barr (textI c)) = some (wideC c) := by
  unfold oneB
  rw [h.split]
  simp
theorem OneC.width {c : List Int} (h : OneC c) : widthB (barr (textI c)) = wideC c := by
  unfold widthB
  rw [h.split]
  simp
theorem text_inj {a b : List Int} (ha : ∀ r ∈ a, charI r = r) (hb : ∀ r ∈ b, charI r = r) (e : barr (textI a) = barr (textI b)) : a = b := by
  have := congrArg runesB e
  rwa [runes_text, runes_text, map_valid ha, map_valid hb] at this
theorem textI_append (a b : List Int) : textI (a ++ b) = textI a ++ textI b := by unfold textI; exact List.flatMap_append ..
theorem barr_append (a b : List Int) : barr a ++ barr b = barr (a ++ b) := by unfold barr; apply ByteArray.ext; simp [ByteArray.data_append]
/-- a cluster that does not join the one ahead does not begin to -/
theorem not_joins {c d : List Int} {r : Int} {d' : List Int} (hc : OneC c) (hd : OneC d) (e : d = r :: d') (h : joinsB (barr (textI c)) (barr (textI d)) = false) : oneB (barr (textI c) ++ charB r) = none := by
  unfold joinsB at h
  have h := of_decide_eq_false h
  have h : splitB (barr (textI c) ++ barr (textI d)) = splitB (barr (textI c)) ++ splitB (barr (textI d)) := by
    rcases Classical.em (splitB (barr (textI c) ++ barr (textI d)) = splitB (barr (textI c)) ++ splitB (barr (textI d))) with z | z
    · exact z
    · exact absurd z h
  have vd : ∀ x ∈ c ++ d, charI x = x := fun x m => (List.mem_append.1 m).elim (hc.valid x) (hd.valid x)
  have ne : c ++ d ≠ [] := by simp [hc.ne]
  have bd := firstC_bounds _ ne
  rw [barr_append, ← textI_append, hc.split] at h
  unfold splitB at h
  rw [runes_text, map_valid vd, clL_cons _ ne] at h
  simp only [List.map_cons, List.cons_append, List.cons.injEq, Prod.mk.injEq] at h
  have tk := text_inj (fun x m => vd x (List.mem_of_mem_take m)) hc.valid h.1.1
  have fl : firstC (c ++ d) = c.length := by
    have := congrArg List.length tk
    rw [List.length_take] at this
    omega
  have e1 : c ++ [r] = (c ++ d).take (c.length + 1) := by
    rw [List.take_append, List.take_of_length_le (by omega), e]
    simp
  have f1 : firstC (c ++ [r]) = c.length := by
    rw [e1, first_take _ _ (by omega) ne, fl]
    omega
  have v1 : ∀ x ∈ c ++ [r], charI x = x := fun x m => by
    rcases List.mem_append.1 m with m | m
    · exact hc.valid x m
    · rw [List.mem_singleton.1 m]; exact hd.valid r (by rw [e]; simp)
  have ce : charB r = barr (textI [r]) := by unfold charB textI; simp
  have s1 : splitB (barr (textI c) ++ charB r) = (barr (textI c), wideC c) :: (clL [r]).map (fun c => (barr c.1, c.2)) := by
    rw [ce, barr_append, ← textI_append]
    unfold splitB
    rw [runes_text, map_valid v1, clL_cons _ (by simp), f1, List.take_left' rfl, List.drop_left' rfl]
    rfl
  have s2 : clL [r] = (textI ([r].take (firstC [r])), wideC ([r].take (firstC [r]))) :: clL ([r].drop (firstC [r])) := clL_cons [r] (by simp)
  unfold oneB
  rw [s1, s2]
  rfl
/-! the row -/
def cellsOf (s : ByteArray) (n : Int) : List Cel := ⟨s, n, plainS⟩ :: (if n = 2 then [⟨zB, 0, plainS⟩] else [])
theorem cellsOf_len (s : ByteArray) (n : Int) (h : n = 1 ∨ n = 2) : ((cellsOf s n).length : Int) = n := by
  unfold cellsOf
  rcases h with rfl | rfl <;> simp
def rowTV (W N : Nat) (h : Int) (L : List Cel) (o : Int) : Trm :=
  { newV W h with cells := L ++ List.replicate (N - L.length) blankC, cur := ⟨min (L.length : Int) ((W : Int) - 1), 0, plainS, false⟩, pend := decide (L.length = W), opn := o, wrt := List.replicate L.length true ++ List.replicate (N - L.length) false }
theorem rowTV_new (W N : Nat) (h : Int) (hN : ((W : Int) * h).toNat = N) (w0 : 0 < W) : rowTV W N h [] (-1) = newV W h := by
  unfold rowTV newV
  simp only [hN, List.nil_append, List.length_nil, Nat.sub_zero, List.replicate_zero]
  have e1 : min (((0 : Nat) : Int)) ((W : Int) - 1) = 0 := by omega
  have e2 : decide (0 = W) = false := decide_eq_false (by omega)
  rw [e1, e2]
  rfl
theorem set_mid {α} (L : List α) (x y : α) (R : List α) : (L ++ x :: R).set L.length y = L ++ y :: R := by
  rw [List.set_append_right _ _ (Nat.le_refl _), Nat.sub_self]
  rfl
theorem rep_succ {α} (n : Nat) (x : α) (h : 0 < n) : List.replicate n x = x :: List.replicate (n - 1) x := by
  obtain ⟨m, rfl⟩ : ∃ m, n = m + 1 := ⟨n - 1, by omega⟩
  rfl
theorem rowTV_cell {W N : Nat} {h : Int} {L : List Cel} {o : Int} (i : Nat) (h1 : L.length ≤ i) (h2 : i < N) : (rowTV W N h L o).cell i = blankC := by
  show (L ++ List.replicate (N - L.length) blankC).getD i celD = _
  rw [List.getD_eq_getElem?_getD, List.getElem?_append_right h1, List.getElem?_replicate, if_pos (by omega)]
  rfl
theorem app_len {α} (L : List α) (a b : List α) (n : Nat) (h : n = L.length + a.length) : (L ++ a ++ b).length = n + b.length := by simp; omega
/-- cells are put at the row's end -/
theorem write_end {W N : Nat} {h : Int} {L : List Cel} {o : Int} {s : ByteArray} {n : Int} (hn : n = 1 ∨ n = 2) (fit : (L.length : Int) + n ≤ W) (wn : W ≤ N) :
    writeT (rowTV W N h L o) (L.length : Int) 0 s n plainS = { rowTV W N h (L ++ cellsOf s n) o with cur := (rowTV W N h L o).cur, pend := (rowTV W N h L o).pend } := by
  have lt : L.length < W := by omega
  have w1 : ((rowTV W N h L o).w) = (W : Int) := rfl
  have i0 : ((0 : Int) * (rowTV W N h L o).w + (L.length : Int)).toNat = L.length := by rw [Int.zero_mul]; omega
  have sp1 : splitT (rowTV W N h L o) (L.length : Int) 0 = rowTV W N h L o := by
    unfold splitT
    rw [if_pos (Or.inr (Or.inr (by rw [i0, rowTV_cell _ (Nat.le_refl _) (by omega)]; decide)))]
  have sp2 : splitT (rowTV W N h L o) ((L.length : Int) + n) 0 = rowTV W N h L o := by
    unfold splitT
    rcases Int.lt_or_le ((L.length : Int) + n) W with a | a
    · rw [if_pos (Or.inr (Or.inr (by
        rw [show ((0 : Int) * (rowTV W N h L o).w + ((L.length : Int) + n)).toNat = L.length + n.toNat by rw [Int.zero_mul]; omega, rowTV_cell _ (by omega) (by omega)]
        decide)))]
    · rw [if_pos (Or.inr (Or.inl (by rw [w1]; exact a)))]
  have cl := cellsOf_len s n hn
  unfold writeT
  rw [sp1, sp2]
  simp only
  rw [i0]
  have r0 : List.replicate (N - L.length) blankC = blankC :: List.replicate (N - L.length - 1) blankC := rep_succ _ _ (by omega)
  have b0 : List.replicate (N - L.length) false = false :: List.replicate (N - L.length - 1) false := rep_succ _ _ (by omega)
  have cs1 : ∀ c : Cel, (L ++ List.replicate (N - L.length) blankC).set L.length c = L ++ c :: List.replicate (N - L.length - 1) blankC := fun c => by rw [r0, set_mid]
  have ws1 : (List.replicate L.length true ++ List.replicate (N - L.length) false).set L.length true = List.replicate L.length true ++ true :: List.replicate (N - L.length - 1) false := by
    rw [b0]
    have := set_mid (List.replicate L.length true) false true (List.replicate (N - L.length - 1) false)
    rw [List.length_replicate] at this
    exact this
  rcases hn with rfl | rfl
  · rw [if_neg (by decide)]
    unfold putT rowTV cellsOf
    simp only [if_neg (show ¬ (1 : Int) = 2 by decide), List.length_append, List.length_cons, List.length_nil]
    rw [cs1, ws1]
    have e : N - (L.length + (0 + 1)) = N - L.length - 1 := by omega
    rw [e, List.append_assoc, show L.length + (0 + 1) = L.length + 1 by omega, List.replicate_succ', List.append_assoc]
    rfl
  · rw [if_pos rfl]
    unfold putT rowTV cellsOf
    simp only [if_true, List.length_append, List.length_cons, List.length_nil]
    rw [cs1, ws1]
    have r1 : List.replicate (N - L.length - 1) blankC = blankC :: List.replicate (N - L.length - 2) blankC := rep_succ _ _ (by omega)
    have b1 : List.replicate (N - L.length - 1) false = false :: List.replicate (N - L.length - 2) false := rep_succ _ _ (by omega)
    have cs2 : (L ++ (⟨s, 2, plainS⟩ : Cel) :: List.replicate (N - L.length - 1) blankC).set (L.length + 1) ⟨zB, 0, plainS⟩ = L ++ (⟨s, 2, plainS⟩ : Cel) :: ⟨zB, 0, plainS⟩ :: List.replicate (N - L.length - 2) blankC := by
      rw [r1]
      have := set_mid (L ++ [(⟨s, 2, plainS⟩ : Cel)]) blankC ⟨zB, 0, plainS⟩ (List.replicate (N - L.length - 2) blankC)
      simp only [List.append_assoc, List.cons_append, List.nil_append, List.length_append, List.length_cons, List.length_nil, Nat.zero_add] at this; exact this
    have ws2 : (List.replicate L.length true ++ true :: List.replicate (N - L.length - 1) false).set (L.length + 1) true = List.replicate L.length true ++ true :: true :: List.replicate (N - L.length - 2) false := by
      rw [b1]
      have := set_mid (List.replicate L.length true ++ [true]) false true (List.replicate (N - L.length - 2) false)
      rw [List.length_append] at this
      simp only [List.append_assoc, List.cons_append, List.nil_append, List.length_cons, List.length_nil, List.length_replicate, Nat.zero_add] at this
      exact this
    rw [cs2, ws2]
    have e : N - (L.length + (0 + 1 + 1)) = N - L.length - 2 := by omega
    rw [e, List.append_assoc, show L.length + (0 + 1 + 1) = L.length + 1 + 1 by omega, List.replicate_succ', List.replicate_succ', List.append_assoc, List.append_assoc]
    rfl
theorem rep_mid (k : Nat) (R : List Bool) : (List.replicate (k + 1) true ++ R).set k true = List.replicate (k + 1) true ++ R := by
  rw [List.replicate_succ', List.append_assoc]
  have := set_mid (List.replicate k true) true true R
  rw [List.length_replicate] at this
  exact this
/-- the row's last cells are written anew -/
theorem write_over {W N : Nat} {h : Int} {L : List Cel} {o : Int} {s s' : ByteArray} {m n : Int} (hm : m = 1 ∨ m = 2) (hn : n = 1 ∨ n = 2) (mn : m ≤ n) (fit : (L.length : Int) + n ≤ W) (wn : W ≤ N) :
    writeT (rowTV W N h (L ++ cellsOf s m) o) (L.length : Int) 0 s' n plainS = { rowTV W N h (L ++ cellsOf s' n) o with cur := (rowTV W N h (L ++ cellsOf s m) o).cur, pend := (rowTV W N h (L ++ cellsOf s m) o).pend } := by
  have lt : L.length < W := by omega
  have cm := cellsOf_len s m hm
  have w1 : ((rowTV W N h (L ++ cellsOf s m) o).w) = (W : Int) := rfl
  have i0 : ((0 : Int) * (rowTV W N h (L ++ cellsOf s m) o).w + (L.length : Int)).toNat = L.length := by rw [Int.zero_mul]; omega
  have c0 : (rowTV W N h (L ++ cellsOf s m) o).cell L.length = ⟨s, m, plainS⟩ := by
    show ((L ++ cellsOf s m) ++ List.replicate _ blankC).getD L.length celD = _
    unfold cellsOf
    rw [List.getD_eq_getElem?_getD, List.append_assoc, List.getElem?_append_right (Nat.le_refl _), Nat.sub_self]
    rfl
  have sp1 : splitT (rowTV W N h (L ++ cellsOf s m) o) (L.length : Int) 0 = rowTV W N h (L ++ cellsOf s m) o := by
    unfold splitT
    rw [if_pos (Or.inr (Or.inr (by rw [i0, c0]; simp only; omega)))]
  have sp2 : splitT (rowTV W N h (L ++ cellsOf s m) o) ((L.length : Int) + n) 0 = rowTV W N h (L ++ cellsOf s m) o := by
    unfold splitT
    rcases Int.lt_or_le ((L.length : Int) + n) W with a | a
    · rw [if_pos (Or.inr (Or.inr (by
        rw [show ((0 : Int) * (rowTV W N h (L ++ cellsOf s m) o).w + ((L.length : Int) + n)).toNat = L.length + n.toNat by rw [Int.zero_mul]; omega, rowTV_cell _ (by rw [List.length_append]; omega) (by omega)]
        decide)))]
    · rw [if_pos (Or.inr (Or.inl (by rw [w1]; exact a)))]
  unfold writeT
  rw [sp1, sp2]
  simp only
  rw [i0]
  rcases hm with rfl | rfl
  · have cs1 : ∀ c : Cel, ((L ++ cellsOf s 1) ++ List.replicate (N - (L ++ cellsOf s 1).length) blankC).set L.length c = L ++ c :: List.replicate (N - L.length - 1) blankC := fun c => by
      rw [show (L ++ cellsOf s 1).length = L.length + 1 by rw [List.length_append]; rfl, show N - (L.length + 1) = N - L.length - 1 by omega]
      show ((L ++ [(⟨s, 1, plainS⟩ : Cel)]) ++ List.replicate (N - L.length - 1) blankC).set L.length c = _
      rw [List.append_assoc]
      exact set_mid L _ c _
    have ws1 : (List.replicate (L ++ cellsOf s 1).length true ++ List.replicate (N - (L ++ cellsOf s 1).length) false).set L.length true = List.replicate (L.length + 1) true ++ List.replicate (N - L.length - 1) false := by
      rw [show (L ++ cellsOf s 1).length = L.length + 1 by rw [List.length_append]; rfl, show N - (L.length + 1) = N - L.length - 1 by omega, rep_mid]
    rcases hn with rfl | rfl
    · rw [if_neg (by decide)]
      unfold putT
      show ({ rowTV W N h (L ++ cellsOf s 1) o with cells := ((L ++ cellsOf s 1) ++ List.replicate (N - (L ++ cellsOf s 1).length) blankC).set L.length ⟨s', 1, plainS⟩, wrt := (List.replicate (L ++ cellsOf s 1).length true ++ List.replicate (N - (L ++ cellsOf s 1).length) false).set L.length true } : Trm) = _
      rw [cs1, ws1]
      unfold rowTV
      simp only [show (L ++ cellsOf s' 1).length = L.length + 1 by rw [List.length_append]; rfl]
      rw [show N - (L.length + 1) = N - L.length - 1 by omega]
      have e : L ++ cellsOf s' 1 ++ List.replicate (N - L.length - 1) blankC = L ++ (⟨s', 1, plainS⟩ : Cel) :: List.replicate (N - L.length - 1) blankC := by rw [List.append_assoc]; rfl
      rw [e]
    · rw [if_pos rfl]
      unfold putT
      show ({ rowTV W N h (L ++ cellsOf s 1) o with cells := (((L ++ cellsOf s 1) ++ List.replicate (N - (L ++ cellsOf s 1).length) blankC).set L.length ⟨s', 2, plainS⟩).set (L.length + 1) ⟨zB, 0, plainS⟩, wrt := ((List.replicate (L ++ cellsOf s 1).length true ++ List.replicate (N - (L ++ cellsOf s 1).length) false).set L.length true).set (L.length + 1) true } : Trm) = _
      rw [cs1, ws1]
      have cs2 : (L ++ (⟨s', 2, plainS⟩ : Cel) :: List.replicate (N - L.length - 1) blankC).set (L.length + 1) ⟨zB, 0, plainS⟩ = L ++ (⟨s', 2, plainS⟩ : Cel) :: ⟨zB, 0, plainS⟩ :: List.replicate (N - L.length - 2) blankC := by
        rw [show List.replicate (N - L.length - 1) blankC = blankC :: List.replicate (N - L.length - 2) blankC from rep_succ (N - L.length - 1) blankC (by omega)]
        have := set_mid (L ++ [(⟨s', 2, plainS⟩ : Cel)]) blankC ⟨zB, 0, plainS⟩ (List.replicate (N - L.length - 2) blankC)
        rw [List.length_append] at this
        simp only [List.append_assoc, List.cons_append, List.nil_append, List.length_cons, List.length_nil, List.length_replicate, Nat.zero_add] at this
        exact this
      have ws2 : (List.replicate (L.length + 1) true ++ List.replicate (N - L.length - 1) false).set (L.length + 1) true = List.replicate (L.length + 2) true ++ List.replicate (N - L.length - 2) false := by
        rw [rep_succ (N - L.length - 1) false (by omega)]
        have := set_mid (List.replicate (L.length + 1) true) false true (List.replicate (N - L.length - 2) false)
        rw [List.length_replicate] at this
        rw [show N - L.length - 1 - 1 = N - L.length - 2 by omega, this, List.replicate_succ' (n := L.length + 1), List.append_assoc]
        rfl
      rw [cs2, ws2]
      unfold rowTV
      simp only [show (L ++ cellsOf s' 2).length = L.length + 2 by rw [List.length_append]; rfl]
      rw [show N - (L.length + 2) = N - L.length - 2 by omega]
      have e : L ++ cellsOf s' 2 ++ List.replicate (N - L.length - 2) blankC = L ++ (⟨s', 2, plainS⟩ : Cel) :: ⟨zB, 0, plainS⟩ :: List.replicate (N - L.length - 2) blankC := by rw [List.append_assoc]; rfl
      rw [e]
  · have n2 : n = 2 := by omega
    subst n2
    rw [if_pos rfl]
    have e2 : (L ++ cellsOf s 2).length = L.length + 2 := by rw [List.length_append]; rfl
    have e2' : (L ++ cellsOf s' 2).length = L.length + 2 := by rw [List.length_append]; rfl
    unfold putT
    show ({ rowTV W N h (L ++ cellsOf s 2) o with cells := (((L ++ cellsOf s 2) ++ List.replicate (N - (L ++ cellsOf s 2).length) blankC).set L.length ⟨s', 2, plainS⟩).set (L.length + 1) ⟨zB, 0, plainS⟩, wrt := ((List.replicate (L ++ cellsOf s 2).length true ++ List.replicate (N - (L ++ cellsOf s 2).length) false).set L.length true).set (L.length + 1) true } : Trm) = _
    have cs : (((L ++ cellsOf s 2) ++ List.replicate (N - (L ++ cellsOf s 2).length) blankC).set L.length ⟨s', 2, plainS⟩).set (L.length + 1) ⟨zB, 0, plainS⟩ = (L ++ cellsOf s' 2) ++ List.replicate (N - (L ++ cellsOf s 2).length) blankC := by
      generalize List.replicate (N - (L ++ cellsOf s 2).length) blankC = R
      have a1 : ((L ++ cellsOf s 2) ++ R).set L.length ⟨s', 2, plainS⟩ = L ++ (⟨s', 2, plainS⟩ : Cel) :: ⟨zB, 0, plainS⟩ :: R := by
        rw [List.append_assoc]
        exact set_mid L _ _ (⟨zB, 0, plainS⟩ :: R)
      rw [a1]
      have := set_mid (L ++ [(⟨s', 2, plainS⟩ : Cel)]) ⟨zB, 0, plainS⟩ ⟨zB, 0, plainS⟩ R
      rw [List.length_append] at this
      simp only [List.append_assoc, List.cons_append, List.nil_append, List.length_cons, List.length_nil, List.length_replicate, Nat.zero_add] at this
      show _ = (L ++ [(⟨s', 2, plainS⟩ : Cel), ⟨zB, 0, plainS⟩]) ++ R
      rw [List.append_assoc]
      exact this
    have ws : ((List.replicate (L ++ cellsOf s 2).length true ++ List.replicate (N - (L ++ cellsOf s 2).length) false).set L.length true).set (L.length + 1) true = List.replicate (L ++ cellsOf s 2).length true ++ List.replicate (N - (L ++ cellsOf s 2).length) false := by
      rw [e2]
      generalize List.replicate (N - (L.length + 2)) false = R
      have a1 : (List.replicate (L.length + 2) true ++ R).set L.length true = List.replicate (L.length + 2) true ++ R := by
        rw [List.replicate_succ' (n := L.length + 1), List.append_assoc, rep_mid]
      rw [a1]
      exact rep_mid (L.length + 1) R
    rw [cs, ws]
    unfold rowTV
    simp only [e2, e2']
theorem stand_end {W N : Nat} {h : Int} {L L2 : List Cel} {o : Int} (x : Int) (hx : x = (L2.length : Int)) (fit : L2.length ≤ W) (lt : L.length < W) :
    standT { rowTV W N h L2 o with cur := (rowTV W N h L o).cur, pend := (rowTV W N h L o).pend } x = rowTV W N h L2 o := by
  subst hx
  have pe : (rowTV W N h L o).pend = false := decide_eq_false (by omega)
  unfold standT
  rcases Nat.lt_or_ge L2.length W with a | a
  · rw [if_neg (by show ¬ ((W : Int) ≤ (L2.length : Int)); omega), pe]
    unfold setX rowTV newV cur0
    simp only
    rw [show min (L2.length : Int) ((W : Int) - 1) = (L2.length : Int) by omega, show decide (L2.length = W) = false from decide_eq_false (by omega)]
  · rw [if_pos (by show ((W : Int) ≤ (L2.length : Int)); omega)]
    unfold setX rowTV newV cur0
    simp only
    rw [show min (L2.length : Int) ((W : Int) - 1) = (W : Int) - 1 by omega, show decide (L2.length = W) = true from decide_eq_true (by omega)]
theorem row_tf (W N : Nat) (h : Int) (L : List Cel) (o o' : Int) : { rowTV W N h L o with opn := o' } = rowTV W N h L o' := rfl
theorem fresh_plain (t : Trm) (s : ByteArray) (ho : t.opn = -1) {n : Int} (hn : widthB s = n) (h1 : ¬ (n = 0 ∨ t.w < n)) (hp : t.pend = false) (hf : ¬ t.w < t.cur.x + n) (hi : t.ins = false) :
    freshT t s = standT (writeT { t with opn := t.cur.y * t.w + t.cur.x } t.cur.x t.cur.y s n t.cur.st) (t.cur.x + n) := by
  have e : { t with opn := -1 } = t := by cases t; simp only at ho; subst ho; rfl
  unfold freshT
  rw [e]
  simp only [hn, h1, hp, hi, hf, Bool.false_eq_true, if_false, false_and]
/-- a character that goes to no open cell -/
theorem fresh_end {W N : Nat} {h : Int} {L : List Cel} {o : Int} (r : Int) {n : Int} (hn : widthB (charB r) = n) (n12 : n = 1 ∨ n = 2) (fit : (L.length : Int) + n ≤ W) (wn : W ≤ N) :
    freshT (rowTV W N h L o) (charB r) = rowTV W N h (L ++ cellsOf (charB r) n) L.length := by
  have lt : L.length < W := by omega
  have cl := cellsOf_len (charB r) n n12
  have x0 : (rowTV W N h L (-1)).cur.x = (L.length : Int) := by show min (L.length : Int) ((W : Int) - 1) = _; omega
  have y0 : (rowTV W N h L (-1)).cur.y = 0 := rfl
  have w0 : (rowTV W N h L (-1)).w = W := rfl
  have st0 : (rowTV W N h L (-1)).cur.st = plainS := rfl
  have e : freshT (rowTV W N h L o) (charB r) = freshT (rowTV W N h L (-1)) (charB r) := rfl
  rw [e, fresh_plain _ _ rfl hn (by rw [w0]; omega) (decide_eq_false (by omega)) (by rw [w0, x0]; omega) rfl, x0, y0, st0, Int.zero_mul, Int.zero_add, row_tf, write_end n12 fit wn]
  exact stand_end _ (by rw [List.length_append]; omega) (by rw [List.length_append]; omega) lt
/-- a character that goes to the open cell, at the row's end -/
theorem open_end {W N : Nat} {h : Int} {L : List Cel} {s : ByteArray} {m n : Int} (r : Int) (hm : m = 1 ∨ m = 2) (hn : n = 1 ∨ n = 2) (mn : m ≤ n) (one : oneB (s ++ charB r) = some n) (fit : (L.length : Int) + n ≤ W) (wn : W ≤ N) :
    printT (rowTV W N h (L ++ cellsOf s m) L.length) (charB r) = rowTV W N h (L ++ cellsOf (s ++ charB r) n) L.length := by
  have lt : L.length < W := by omega
  have c0 : (rowTV W N h (L ++ cellsOf s m) L.length).cell L.length = ⟨s, m, plainS⟩ := by
    show ((L ++ cellsOf s m) ++ List.replicate _ blankC).getD L.length celD = _
    unfold cellsOf
    rw [List.getD_eq_getElem?_getD, List.append_assoc, List.getElem?_append_right (Nat.le_refl _), Nat.sub_self]
    rfl
  have cm := cellsOf_len s m hm
  have cn := cellsOf_len (s ++ charB r) n hn
  have o0 : (rowTV W N h (L ++ cellsOf s m) L.length).opn = (L.length : Int) := rfl
  have w0 : (rowTV W N h (L ++ cellsOf s m) L.length).w = (W : Int) := rfl
  unfold printT
  rw [if_pos (by rw [o0]; omega), o0, Int.toNat_natCast, c0]
  simp only
  rw [one]
  simp only
  rw [w0, Int.emod_eq_of_lt (by omega) (by omega), Int.ediv_eq_zero_of_lt (by omega) (by omega)]
  by_cases e : n = m
  · subst e
    rw [if_pos rfl, write_over hn hn (Int.le_refl _) fit wn]
    unfold rowTV
    simp only [List.length_append]
    have e2 : (cellsOf (s ++ charB r) n).length = (cellsOf s n).length := by omega
    rw [e2]
  · rw [if_neg e, if_pos (by omega), write_over hm hn mn fit wn]
    have m1 : m = 1 := by omega
    have n2 : n = 2 := by omega
    subst m1 n2
    exact stand_end (L := L ++ cellsOf s 1) _ (by rw [List.length_append]; omega) (by rw [List.length_append]; omega) (by rw [List.length_append]; omega)
end Go.Proofs.YtkllilehdpdbdaaGreatDoor

/- A row of clusters that is fed to a new terminal (plain; of no program). -/
namespace Go.Proofs.YtkllilehdpdbdaaGreatDoor
open Go.RowKit
set_option linter.unusedVariables false
set_option linter.unusedSimpArgs false

theorem wide_one {c : List Int} (ne : c ≠ []) (wz : wideC c ≠ 0) : (wideC (c.take 1) = 1 ∨ wideC (c.take 1) = 2) ∧ wideC (c.take 1) ≤ wideC c ∧ ∀ k, 2 ≤ k → wideC (c.take k) = wideC c := by
  have hp := List.length_pos_iff.2 ne
  have W2 : ∀ k, 2 ≤ k → wideC (c.take k) = wideC c := fun k hk => by
    unfold wideC
    rw [takeD _ _ _ (by omega), takeD _ _ _ (by omega), List.length_take]
    have : 1 < min k c.length ↔ 1 < c.length := by omega
    simp only [this]
  refine ⟨?_, ?_, W2⟩
  · unfold wideC at wz ⊢
    rw [takeD _ _ _ (by omega), List.length_take]
    have e : ¬ 1 < min 1 c.length := by omega
    simp only [e, false_and, if_false]
    generalize kindI (c.getD 0 0) = k at *
    by_cases a : k = 1 ∨ k = 2 ∨ k = 4 ∨ k = 3
    · rw [if_pos a] at wz; exact absurd rfl wz
    rw [if_neg a]
    split
    · exact Or.inr rfl
    · exact Or.inl (by split <;> (try split) <;> rfl)
  · unfold wideC
    rw [takeD _ _ _ (by omega), List.length_take]
    have e : ¬ 1 < min 1 c.length := by omega
    simp only [e, false_and, if_false]
    generalize kindI (c.getD 0 0) = k at *
    repeat' split
    all_goals omega
/-- a character that no control is -/
def shownR (r : Int) : Prop := charI r = r ∧ 32 ≤ r ∧ ¬ (127 ≤ r ∧ r < 160)
theorem feed_shown {t : Trm} (h0 : t.state = 0) (hk : t.kept = zB) {r : Int} (hr : shownR r) (wh : 0 < t.w * t.h) : feedT t (bytesI r) = printT t (charB r) := by
  obtain ⟨a, b, c⟩ := hr
  rw [feed_char h0 hk, a]
  unfold runeT
  rw [if_neg (by omega), if_neg (by omega), if_pos wh]
theorem feedT_app (t : Trm) (a b : List Int) : feedT t (a ++ b) = feedT (feedT t a) b := by unfold feedT; rw [List.foldl_append]
/-- what stands ahead of a cluster: nothing that is open, or one that it does not join -/
def Ahead (L : List Cel) (o : Int) (r : Int) : Prop := o = -1 ∨ ∃ L0 s m, L = L0 ++ cellsOf s m ∧ o = (L0.length : Int) ∧ oneB (s ++ charB r) = none
theorem print_fresh {W N : Nat} {h : Int} {L : List Cel} {o r : Int} (a : Ahead L o r) : printT (rowTV W N h L o) (charB r) = freshT (rowTV W N h L o) (charB r) := by
  unfold printT
  rcases a with rfl | ⟨L0, s, m, rfl, rfl, one⟩
  · rw [if_neg (by show ¬ (0 : Int) ≤ -1; decide)]
  · have c0 : (rowTV W N h (L0 ++ cellsOf s m) (L0.length : Int)).cell L0.length = ⟨s, m, plainS⟩ := by
      show ((L0 ++ cellsOf s m) ++ List.replicate _ blankC).getD L0.length celD = _
      unfold cellsOf
      rw [List.getD_eq_getElem?_getD, List.append_assoc, List.getElem?_append_right (Nat.le_refl _), Nat.sub_self]
      rfl
    have o0 : (rowTV W N h (L0 ++ cellsOf s m) (L0.length : Int)).opn = (L0.length : Int) := rfl
    rw [if_pos (by rw [o0]; omega), o0, Int.toNat_natCast, c0]
    simp only
    rw [one]
/-- a cluster is fed -/
theorem feed_chunk {W N : Nat} {h : Int} {L : List Cel} {o : Int} {c : List Int} (hc : OneC c) (ok : ∀ r ∈ c, shownR r) (wz : wideC c ≠ 0) (fit : (L.length : Int) + wideC c ≤ W) (wn : W ≤ N) (h0 : 0 < h) (a : Ahead L o (c.getD 0 0)) :
    feedT (rowTV W N h L o) (textI c) = rowTV W N h (L ++ cellsOf (barr (textI c)) (wideC c)) L.length := by
  have hp := List.length_pos_iff.2 hc.ne
  obtain ⟨w1, w2, w3⟩ := wide_one hc.ne wz
  have wle := wideC_le c
  have wc : wideC c = 1 ∨ wideC c = 2 := by omega
  have wh : ∀ L o, 0 < (rowTV W N h L o).w * (rowTV W N h L o).h := fun L o => Int.mul_pos (by show (0 : Int) < W; omega) h0
  have key : ∀ k, 1 ≤ k → k ≤ c.length → feedT (rowTV W N h L o) (textI (c.take k)) = rowTV W N h (L ++ cellsOf (barr (textI (c.take k))) (wideC (c.take k))) L.length := by
    intro k
    induction k with
    | zero => intro z; omega
    | succ k ih =>
      intro _ hk
      have lt : k < c.length := by omega
      have tk : c.take (k + 1) = c.take k ++ [c[k]] := by rw [List.take_add_one, List.getElem?_eq_getElem lt]; rfl
      have sr := ok c[k] (List.getElem_mem lt)
      have O1 := hc.take (k := k + 1) (by omega) hk
      rcases Nat.eq_zero_or_pos k with z | z
      · subst z
        have t1 : c.take (0 + 1) = [c[0]] := by rw [tk]; rfl
        have te : textI [c[0]] = bytesI c[0] := by unfold textI; simp
        have ce : charB c[0] = barr (textI [c[0]]) := by rw [te]; rfl
        have g0 : c.getD 0 0 = c[0] := by rw [List.getD_eq_getElem?_getD, List.getElem?_eq_getElem lt]; rfl
        rw [g0] at a
        rw [t1] at O1 w1 w2 ⊢
        rw [te, feed_shown rfl rfl sr (wh L o), print_fresh a, fresh_end c[0] (n := wideC [c[0]]) (by rw [ce]; exact O1.width) w1 (by omega) wn]
        rfl
      · have ih := ih z (by omega)
        have te : textI (c.take (k + 1)) = textI (c.take k) ++ bytesI c[k] := by rw [tk, textI_append]; unfold textI; simp
        have be : barr (textI (c.take (k + 1))) = barr (textI (c.take k)) ++ charB c[k] := by rw [te]; exact (barr_append _ _).symm
        have one := O1.one
        rw [be] at one
        have wm : (wideC (c.take k) = 1 ∨ wideC (c.take k) = 2) ∧ wideC (c.take k) ≤ wideC c := by
          rcases Nat.lt_or_ge k 2 with q | q
          · have : k = 1 := by omega
            subst this
            exact ⟨w1, w2⟩
          · rw [w3 k q]; exact ⟨wc, Int.le_refl _⟩
        have wn1 : wideC (c.take (k + 1)) = wideC c := w3 _ (by omega)
        rw [wn1] at one ⊢
        rw [te, feedT_app, ih, feed_shown rfl rfl sr (wh _ _), open_end c[k] wm.1 wc wm.2 one fit wn, ← be, te]
  have := key c.length hp (Nat.le_refl _)
  rwa [List.take_length] at this
def cellsAll (cs : List (List Int)) : List Cel := cs.flatMap fun c => cellsOf (barr (textI c)) (wideC c)
/-- what a row of clusters asks for -/
structure GoodC (c : List Int) : Prop where
  one : OneC c
  ok : ∀ r ∈ c, shownR r
  wz : wideC c ≠ 0
theorem GoodC.head {c : List Int} (h : GoodC c) : ∃ d', c = c.getD 0 0 :: d' := by
  cases c with
  | nil => exact absurd rfl h.one.ne
  | cons r d => exact ⟨d, rfl⟩
/-- clusters none of which joins the one ahead -/
def chainC : List Int → List (List Int) → Prop
  | _, [] => True
  | p, c :: cs => joinsB (barr (textI p)) (barr (textI c)) = false ∧ chainC c cs
def sumC (cs : List (List Int)) : Int := (cs.map wideC).sum
theorem cells_sum : ∀ cs : List (List Int), (∀ c ∈ cs, GoodC c) → ((cellsAll cs).length : Int) = sumC cs
  | [], _ => rfl
  | c :: cs, h => by
    have g := h c (by simp)
    have wle := wideC_le c
    have := cells_sum cs (fun x m => h x (by simp [m]))
    have cl := cellsOf_len (barr (textI c)) (wideC c) (by have := g.wz; omega)
    unfold cellsAll sumC at *
    simp only [List.flatMap_cons, List.length_append, List.map_cons, List.sum_cons]
    omega
theorem wide_pos {c : List Int} (g : GoodC c) : 1 ≤ wideC c ∧ wideC c ≤ 2 := by
  have := wideC_le c
  have := g.wz
  omega
theorem sum_nonneg : ∀ cs : List (List Int), (∀ c ∈ cs, GoodC c) → 0 ≤ sumC cs := fun cs h => by rw [← cells_sum cs h]; omega
theorem feed_chain {W N : Nat} {h : Int} (wn : W ≤ N) (h0 : 0 < h) : ∀ (cs : List (List Int)) (p : List Int) (L0 : List Cel), (∀ c ∈ cs, GoodC c) → GoodC p → chainC p cs → (((L0 ++ cellsOf (barr (textI p)) (wideC p)).length : Nat) : Int) + sumC cs ≤ W →
    ∃ o, feedT (rowTV W N h (L0 ++ cellsOf (barr (textI p)) (wideC p)) L0.length) (textI cs.flatten) = rowTV W N h ((L0 ++ cellsOf (barr (textI p)) (wideC p)) ++ cellsAll cs) o
  | [], p, L0, _, _, _, _ => ⟨L0.length, by unfold cellsAll; simp [feedT, textI]⟩
  | c :: cs, p, L0, hg, gp, ch, fit => by
    have g := hg c (by simp)
    have gs : ∀ x ∈ cs, GoodC x := fun x m => hg x (by simp [m])
    obtain ⟨d', hd⟩ := g.head
    have nj := not_joins gp.one g.one hd ch.1
    have sn := sum_nonneg cs gs
    have es : sumC (c :: cs) = wideC c + sumC cs := by unfold sumC; simp
    have wp := wide_pos g
    have F := feed_chunk (W := W) (N := N) (h := h) (L := L0 ++ cellsOf (barr (textI p)) (wideC p)) (o := (L0.length : Int)) g.one g.ok g.wz (by omega) wn h0 (Or.inr ⟨L0, _, _, rfl, rfl, nj⟩)
    have cl := cellsOf_len (barr (textI c)) (wideC c) (by omega)
    obtain ⟨o, ho⟩ := feed_chain wn h0 cs c (L0 ++ cellsOf (barr (textI p)) (wideC p)) gs g ch.2 (by rw [List.length_append]; omega)
    refine ⟨o, ?_⟩
    rw [List.flatten_cons, textI_append, feedT_app, F, ho]
    unfold cellsAll
    simp only [List.flatMap_cons, List.append_assoc]
/-- A ROW OF CLUSTERS STANDS IN THE FIRST ROW -/
theorem feed_row {W N : Nat} {h : Int} (hN : ((W : Int) * h).toNat = N) (wn : W ≤ N) (w0 : 0 < W) (h0 : 0 < h) (cs : List (List Int)) (hg : ∀ c ∈ cs, GoodC c) (ch : ∀ c l, cs = c :: l → chainC c l) (fit : sumC cs ≤ W) :
    ∃ o, feedT (newV W h) (textI cs.flatten) = rowTV W N h (cellsAll cs) o := by
  rw [← rowTV_new W N h hN w0]
  cases cs with
  | nil => exact ⟨-1, rfl⟩
  | cons c cs =>
    have g := hg c (by simp)
    have gs : ∀ x ∈ cs, GoodC x := fun x m => hg x (by simp [m])
    have sn := sum_nonneg cs gs
    have es : sumC (c :: cs) = wideC c + sumC cs := by unfold sumC; simp
    have wp := wide_pos g
    have F := feed_chunk (W := W) (N := N) (h := h) (L := []) (o := -1) g.one g.ok g.wz (by simp; omega) wn h0 (Or.inl rfl)
    have cl := cellsOf_len (barr (textI c)) (wideC c) (by omega)
    obtain ⟨o, ho⟩ := feed_chain wn h0 cs c [] gs g (ch c cs rfl) (by rw [List.nil_append]; omega)
    refine ⟨o, ?_⟩
    rw [List.flatten_cons, textI_append, feedT_app, F]
    rw [List.length_nil] at ho ⊢
    rw [List.nil_append] at ho ⊢
    rw [ho]
    unfold cellsAll
    simp only [List.flatMap_cons]
theorem row_seen {W N : Nat} {h : Int} {L : List Cel} {o : Int} (p : 0 < (W : Int) * h) : seenT (rowTV W N h L o) = ⟨W, h, L ++ List.replicate (N - L.length) blankC, min (L.length : Int) ((W : Int) - 1), 0, true⟩ := by
  unfold seenT
  rw [if_pos ⟨rfl, p⟩]
  rfl
theorem row_written {W N : Nat} {h : Int} {L : List Cel} {o : Int} (hl : L.length ≤ N) : (writtenT (rowTV W N h L o)).length = L.length := by
  show (((List.range (List.replicate L.length true ++ List.replicate (N - L.length) false).length).filter fun i => (List.replicate L.length true ++ List.replicate (N - L.length) false).getD i false).map _).length = _
  rw [List.length_map, List.length_append, List.length_replicate, List.length_replicate, ← List.countP_eq_length_filter, show L.length + (N - L.length) = N by omega]
  have e : ∀ n, n ≤ N → (List.range n).countP (fun i => (List.replicate L.length true ++ List.replicate (N - L.length) false).getD i false) = min n L.length := by
    intro n
    induction n with
    | zero => intro _; simp
    | succ n ih =>
      intro hn
      have g : (List.replicate L.length true ++ List.replicate (N - L.length) false).getD n false = decide (n < L.length) := by
        rw [List.getD_eq_getElem?_getD]
        rcases Nat.lt_or_ge n L.length with a | a
        · rw [List.getElem?_append_left (by rw [List.length_replicate]; exact a), List.getElem?_replicate, if_pos a, decide_eq_true a]
          rfl
        · rw [List.getElem?_append_right (by rw [List.length_replicate]; exact a), List.length_replicate, List.getElem?_replicate, decide_eq_false (by omega)]
          split <;> rfl
      rw [List.range_succ, List.countP_append, ih (by omega), List.countP_singleton, g]
      by_cases a : n < L.length
      · rw [decide_eq_true a]
        show min n L.length + 1 = _
        omega
      · rw [decide_eq_false a]
        show min n L.length + 0 = _
        omega
  rw [e N (Nat.le_refl _)]
  omega
end Go.Proofs.YtkllilehdpdbdaaGreatDoor

/- The clusters of a text that are shown (plain; of no program). -/
namespace Go.Proofs.YtkllilehdpdbdaaGreatDoor
open Go.RowKit
set_option linter.unusedVariables false
set_option linter.unusedSimpArgs false

theorem growK_takes (l : List Int) (base : Int) : ∀ f n i, n ≤ i → i < growK l base f n → takesK base (l.getD (i - 1) 0) (l.getD i 0) = true
  | 0, n, i, h, hi => by unfold growK at hi; omega
  | f + 1, n, i, h, hi => by
    by_cases g : n < l.length ∧ takesK base (l.getD (n - 1) 0) (l.getD n 0) = true
    · rw [growK_go l base f n g] at hi
      rcases Nat.lt_or_ge n i with a | a
      · exact growK_takes l base f (n + 1) i a hi
      · have : i = n := by omega
        subst this
        exact g.2
    · rw [growK_stop l base (f + 1) n g] at hi
      omega
theorem takes_kind {b a n : Int} (h : takesK b a n = true) : kindI n ≠ 1 := by
  intro k
  unfold takesK at h
  rw [k] at h
  simp at h
theorem chunk_kind {L : List Int} (h0 : kindI (L.getD 0 0) ≠ 1) : ∀ i, i < firstC L → kindI (L.getD i 0) ≠ 1 := by
  intro i hi
  rcases Nat.eq_zero_or_pos i with z | z
  · subst z; exact h0
  · unfold firstC at hi
    rw [if_neg h0] at hi
    rcases Nat.lt_or_ge i (beginK L) with a | a
    · unfold beginK at a
      split at a
      · rename_i q
        have : i = 1 := by omega
        subst this
        rw [q.2.2]
        decide
      · omega
    · exact takes_kind (growK_takes L _ _ _ i a hi)
theorem low_shown : ∀ i : Fin 160, kindI (i.val : Int) ≠ 1 → 32 ≤ i.val ∧ i.val < 127 := by decide +kernel
theorem shown_of {r : Int} (v : charI r = r) (k : kindI r ≠ 1) : shownR r := by
  have c := charI_rng r
  rw [v] at c
  refine ⟨v, ?_⟩
  by_cases l : r < 160
  · have := low_shown ⟨r.toNat, by omega⟩ (by rw [show (((⟨r.toNat, by omega⟩ : Fin 160).val : Nat) : Int) = r by simp only; omega]; exact k)
    simp only at this
    omega
  · omega
theorem chunk_good {L : List Int} (ne : L ≠ []) (v : ∀ r ∈ L, charI r = r) (wz : wideC (L.take (firstC L)) ≠ 0) : GoodC (L.take (firstC L)) := by
  have b := firstC_bounds L ne
  have len : (L.take (firstC L)).length = firstC L := by rw [List.length_take]; omega
  have vt : ∀ r ∈ L.take (firstC L), charI r = r := fun r m => v r (List.mem_of_mem_take m)
  refine ⟨⟨?_, ?_, vt⟩, ?_, wz⟩
  · intro z
    rw [z] at len
    simp at len
    omega
  · rw [first_take L _ b.1 ne, len]
    omega
  · have h0 : kindI (L.getD 0 0) ≠ 1 := by
      intro k
      apply wz
      unfold wideC
      rw [takeD _ _ _ (by omega), if_pos (Or.inl k)]
    intro r m
    obtain ⟨i, hi, e⟩ := List.mem_iff_getElem.1 m
    refine shown_of (vt r m) ?_
    have := chunk_kind h0 i (by omega)
    rw [← takeD L (firstC L) i (by omega), List.getD_eq_getElem?_getD, List.getElem?_eq_getElem hi] at this
    rw [← e]
    exact this
theorem cl_good : ∀ (n : Nat) (L : List Int), L.length = n → (∀ r ∈ L, charI r = r) → ∀ e ∈ clL L, e.2 ≠ 0 → ∃ c, GoodC c ∧ e = (textI c, wideC c) := by
  intro n
  induction n using Nat.strongRecOn with
  | ind n ih =>
    intro L hn v e m wz
    by_cases z : L = []
    · subst z; rw [clL_nil] at m; cases m
    · have b := firstC_bounds L z
      rw [clL_cons L z] at m
      rcases List.mem_cons.1 m with rfl | m
      · exact ⟨_, chunk_good z v wz, rfl⟩
      · exact ih (L.length - firstC L) (by omega) (L.drop (firstC L)) (by rw [List.length_drop]) (fun r m => v r (List.mem_of_mem_drop m)) e m wz
theorem valid_text (l : List Int) : ∀ r ∈ l.map charI, charI r = r := by
  intro r m
  obtain ⟨x, _, rfl⟩ := List.mem_map.1 m
  unfold charI
  split
  · rfl
  · rfl
/-- what is shown of a text is clusters -/
theorem split_good (l : List Int) : ∀ e ∈ splitB (barr (textI l)), e.2 ≠ 0 → ∃ c, GoodC c ∧ e = (barr (textI c), wideC c) := by
  intro e m wz
  unfold splitB at m
  rw [runes_text] at m
  obtain ⟨x, hx, rfl⟩ := List.mem_map.1 m
  obtain ⟨c, hc, e⟩ := cl_good _ _ rfl (valid_text l) x hx wz
  exact ⟨c, hc, by rw [e]⟩
end Go.Proofs.YtkllilehdpdbdaaGreatDoor

/- VtRow: what is picked of a text's clusters, and what stands in the row (plain). -/
namespace Go.Proofs.YtkllilehdpdbdaaGreatDoor
open Go.RowKit
set_option linter.unusedVariables false
set_option linter.unusedSimpArgs false

def clOf (cs : List (List Int)) : List (ByteArray × Int) := cs.map fun c => (barr (textI c), wideC c)
def Chained : List (List Int) → Prop
  | [] => True
  | c :: l => chainC c l
def lastB : List (List Int) → ByteArray
  | [] => zB
  | [c] => barr (textI c)
  | _ :: d :: l => lastB (d :: l)
theorem chain_snoc : ∀ (l : List (List Int)) (p c : List Int), chainC p l → joinsB (lastB (p :: l)) (barr (textI c)) = false → chainC p (l ++ [c])
  | [], p, c, _, h => ⟨h, trivial⟩
  | d :: l, p, c, hc, h => ⟨hc.1, chain_snoc l d c hc.2 h⟩
theorem last_snoc : ∀ (l : List (List Int)) (c : List Int), lastB (l ++ [c]) = barr (textI c)
  | [], c => rfl
  | [d], c => rfl
  | _ :: d :: l, c => last_snoc (d :: l) c
/-- clusters that were picked -/
structure RowK (cs : List (List Int)) : Prop where
  good : ∀ c ∈ cs, GoodC c
  ch : Chained cs
  le : sumC cs ≤ 1000
theorem RowK.nil : RowK [] := ⟨(fun c h => by cases h), trivial, by decide⟩
theorem sumC_snoc (cs : List (List Int)) (c : List Int) : sumC (cs ++ [c]) = sumC cs + wideC c := by unfold sumC; simp
theorem RowK.snoc {cs : List (List Int)} {c : List Int} (h : RowK cs) (g : GoodC c) (j : cs ≠ [] → joinsB (lastB cs) (barr (textI c)) = false) (le : sumC cs + wideC c ≤ 1000) : RowK (cs ++ [c]) := by
  refine ⟨fun x m => ?_, ?_, by rw [sumC_snoc]; exact le⟩
  · rcases List.mem_append.1 m with m | m
    · exact h.good x m
    · rw [List.mem_singleton.1 m]; exact g
  · cases cs with
    | nil => exact trivial
    | cons p l => exact chain_snoc l p c h.ch (j (by simp))
theorem flat_snoc (cs : List (List Int)) (c : List Int) : barr (textI (cs ++ [c]).flatten) = barr (textI cs.flatten) ++ barr (textI c) := by
  rw [List.flatten_append, textI_append, barr_append]
  simp
theorem GoodC.size {c : List Int} (g : GoodC c) : (barr (textI c)).size ≤ 64 := by
  have b := firstC_bounds c g.one.ne
  rw [g.one.whole] at b
  have := textI_len c
  rw [barr_size]
  omega
theorem flat_size : ∀ cs : List (List Int), (∀ c ∈ cs, GoodC c) → ((barr (textI cs.flatten)).size : Int) ≤ 64 * sumC cs ∧ (cs.length : Int) ≤ sumC cs
  | [], _ => by decide
  | c :: cs, h => by
    have g := h c (by simp)
    have ih := flat_size cs (fun x m => h x (by simp [m]))
    have s := g.size
    have p := wide_pos g
    have e : sumC (c :: cs) = wideC c + sumC cs := by unfold sumC; simp
    rw [List.flatten_cons, textI_append, ← barr_append, ByteArray.size_append, e, List.length_cons]
    omega
theorem byL_barr {l : List Int} (h : ∀ b ∈ l, 0 ≤ b ∧ b < 256) : byL (barr l) = l := by
  unfold byL barr
  simp only [List.map_map]
  conv => rhs; rw [← List.map_id l]
  refine List.map_congr_left fun b m => ?_
  have := h b m
  simp only [Function.comp, UInt8.toNat_ofNat', id]
  omega
/-- what stands on the screen -/
def rowCells (N : Nat) (cs : List (List Int)) : List Cel := cellsAll cs ++ List.replicate (N - (cellsAll cs).length) blankC
theorem row_all {cs : List (List Int)} (k : RowK cs) (W : Nat) (h : Int) (h0 : 0 < h) (N : Nat) (hN : ((W : Int) * h).toNat = N) (fit : sumC cs ≤ W) :
    seenT (feedT (newV W h) (byL (barr (textI cs.flatten)))) = ⟨W, h, rowCells N cs, if 0 < (W : Int) then min (sumC cs) ((W : Int) - 1) else 0, 0, decide (0 < (W : Int))⟩ ∧ (writtenT (feedT (newV W h) (byL (barr (textI cs.flatten))))).length = (sumC cs).toNat := by
  have cl := cells_sum cs k.good
  rw [byL_barr (textI_rng _)]
  by_cases w0 : 0 < W
  · have wn : W ≤ N := by
      have : (W : Int) * 1 ≤ (W : Int) * h := Int.mul_le_mul_of_nonneg_left (by omega) (by omega)
      omega
    obtain ⟨o, ho⟩ := feed_row hN wn w0 h0 cs k.good (fun c l e => by have := k.ch; rw [e] at this; exact this) fit
    rw [ho, row_seen (Int.mul_pos (by omega) h0), row_written (by omega), if_pos (by omega), decide_eq_true (show (0 : Int) < (W : Int) by omega), cl]
    exact ⟨rfl, by omega⟩
  · have W0 : W = 0 := by omega
    subst W0
    have c0 : cs = [] := by
      have := (flat_size cs k.good).2
      exact List.eq_nil_of_length_eq_zero (by omega)
    subst c0
    have e : feedT (newV (0 : Nat) h) (textI ([] : List (List Int)).flatten) = newV 0 h := rfl
    rw [e]
    have z : ¬ 0 < ((0 : Nat) : Int) := by omega
    rw [if_neg z, decide_eq_false z]
    have n0 : N = 0 := by rw [← hN]; simp
    subst n0
    refine ⟨?_, ?_⟩
    · unfold seenT newV
      simp only [Int.zero_mul]
      rw [if_neg (by simp)]
      rfl
    · unfold writtenT newV
      simp only [Int.zero_mul]
      rfl
theorem cellsAll_app (a b : List (List Int)) : cellsAll (a ++ b) = cellsAll a ++ cellsAll b := by unfold cellsAll; exact List.flatMap_append ..
/-- the cell of each cluster -/
theorem row_at {cs : List (List Int)} (k : RowK cs) (N : Nat) (i : Nat) (hi : i < cs.length) : ∃ c, cs[i]? = some c ∧ GoodC c ∧ sumC (cs.take (i + 1)) = sumC (cs.take i) + wideC c ∧ (rowCells N cs).getD (sumC (cs.take i)).toNat celD = ⟨barr (textI c), wideC c, plainS⟩ ∧ (wideC c = 2 → (rowCells N cs).getD ((sumC (cs.take i)).toNat + 1) celD = ⟨zB, 0, plainS⟩) ∧ 0 ≤ sumC (cs.take i) ∧ sumC (cs.take (i + 1)) ≤ sumC cs := by
  have e : cs = cs.take i ++ cs[i] :: cs.drop (i + 1) := by rw [← List.drop_eq_getElem_cons hi, List.take_append_drop]
  have g := k.good cs[i] (List.getElem_mem hi)
  have gt : ∀ c ∈ cs.take i, GoodC c := fun c m => k.good c (List.mem_of_mem_take m)
  have gd : ∀ c ∈ cs.drop (i + 1), GoodC c := fun c m => k.good c (List.mem_of_mem_drop m)
  have cl := cells_sum _ gt
  have tk : cs.take (i + 1) = cs.take i ++ [cs[i]] := by rw [List.take_add_one, List.getElem?_eq_getElem hi]; rfl
  have s1 : sumC (cs.take (i + 1)) = sumC (cs.take i) + wideC cs[i] := by rw [tk, sumC_snoc]
  have s2 : sumC cs = sumC (cs.take (i + 1)) + sumC (cs.drop (i + 1)) := by
    have q : sumC (cs.take (i + 1) ++ cs.drop (i + 1)) = sumC (cs.take (i + 1)) + sumC (cs.drop (i + 1)) := by unfold sumC; rw [List.map_append, List.sum_append]
    rwa [List.take_append_drop] at q
  have n0 := sum_nonneg _ gt
  have n1 := sum_nonneg _ gd
  have tn : (sumC (cs.take i)).toNat = (cellsAll (cs.take i)).length := by omega
  have ca : cellsAll cs = cellsAll (cs.take i) ++ (cellsOf (barr (textI cs[i])) (wideC cs[i]) ++ cellsAll (cs.drop (i + 1))) := by
    conv => lhs; rw [e, cellsAll_app]
    unfold cellsAll
    rw [List.flatMap_cons]
  refine ⟨cs[i], List.getElem?_eq_getElem hi, g, s1, ?_, fun w2 => ?_, n0, by omega⟩
  · unfold rowCells
    rw [tn, ca, List.append_assoc, List.getD_eq_getElem?_getD, List.getElem?_append_right (Nat.le_refl _), Nat.sub_self]
    unfold cellsOf
    rfl
  · unfold rowCells
    rw [tn, ca, List.append_assoc, List.getD_eq_getElem?_getD, List.getElem?_append_right (Nat.le_succ _), show (cellsAll (cs.take i)).length.succ - (cellsAll (cs.take i)).length = 1 by omega]
    unfold cellsOf
    rw [w2, if_pos rfl]
    rfl
theorem row_blank {cs : List (List Int)} (k : RowK cs) (N i : Nat) (h1 : (sumC cs).toNat ≤ i) (h2 : i < N) : (rowCells N cs).getD i celD = blankC := by
  have cl := cells_sum cs k.good
  unfold rowCells
  rw [List.getD_eq_getElem?_getD, List.getElem?_append_right (by omega), List.getElem?_replicate, if_pos (by omega)]
  rfl
theorem row_len {cs : List (List Int)} (k : RowK cs) (N : Nat) (h : sumC cs ≤ N) : (rowCells N cs).length = N := by
  have cl := cells_sum cs k.good
  unfold rowCells
  rw [List.length_append, List.length_replicate]
  omega
theorem joins_nil (s : ByteArray) : joinsB zB s = false := by
  unfold joinsB
  have e : zB ++ s = s := by apply ByteArray.ext; simp [ByteArray.data_append]; rfl
  rw [e]
  have : splitB zB = [] := rfl
  rw [this, List.nil_append]
  exact decide_eq_false (fun h => h rfl)
end Go.Proofs.YtkllilehdpdbdaaGreatDoor
