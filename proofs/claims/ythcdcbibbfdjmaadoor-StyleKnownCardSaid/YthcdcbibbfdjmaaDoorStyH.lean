/- The program's Parse of a patch: the walk. -/
import Derived.Test.YthcdcbibbfdjmaaDoorStyK
import Derived.Test.YthcdcbibbfdjmaaDoorStyO
namespace Go.Proofs.YthcdcbibbfdjmaaDoor
open Go.RowKit Go.Sort
set_option linter.unusedVariables false

def parV : Except Int Pat → Value
  | .ok p => .tuple #[patV p.fg p.bg p.add p.drop, .int .i64 0]
  | .error e => .tuple #[patV 0 0 0 0, .int .i64 e]

theorem par_twice (p : Pat) (x : ByteArray) (r : List ByteArray) (h : attB x ||| offB x ≠ 0) (h2 : (p.add ||| p.drop) &&& (attB x ||| offB x) ≠ 0) : parL p (x :: r) = .error 112 := by
  unfold parL; rw [if_pos h, if_pos h2]
theorem par_bits (p : Pat) (x : ByteArray) (r : List ByteArray) (h : attB x ||| offB x ≠ 0) (h2 : ¬ (p.add ||| p.drop) &&& (attB x ||| offB x) ≠ 0) : parL p (x :: r) = parL { p with add := p.add ||| attB x, drop := p.drop ||| offB x } r := by
  conv => lhs; unfold parL
  rw [if_pos h, if_neg h2]
theorem par_on (p : Pat) (y : ByteArray) (r : List ByteArray) : parL p (onB :: y :: r) = match colW y with
    | none => .error 60
    | some c => if p.bg ≠ 0 then .error 112 else parL { p with bg := c } r := by
  conv => lhs; unfold parL
  rw [if_neg (by decide +kernel), if_pos rfl]
  cases h : colW y <;> simp only [h]
theorem col_on : colW onB = none := by decide +kernel
theorem par_fg (p : Pat) (x : ByteArray) (r : List ByteArray) (h : ¬ attB x ||| offB x ≠ 0) (h2 : x ≠ onB ∨ r = []) : parL p (x :: r) = match colW x with
    | none => .error 60
    | some c => if p.fg ≠ 0 then .error 112 else parL { p with fg := c } r := by
  by_cases e : x = onB
  · subst e
    have : r = [] := h2.resolve_left (fun g => g rfl)
    subst this
    rw [col_on]
    unfold parL
    rw [if_neg h, if_pos rfl]
  · conv => lhs; unfold parL
    rw [if_neg h, if_neg e]
    cases h : colW x <;> simp only

theorem bI_test (b : B8) : (bI b != 0) = decide (b ≠ 0) := by
  rw [Bool.eq_iff_iff, bne_iff_ne, decide_eq_true_iff]
  exact ⟨fun h e => h (by rw [e]; rfl), fun h e => h (bI_inj (b := 0) e)⟩

theorem wl_len (l : List UInt8) : ∀ cur, (wl cur l).length ≤ l.length + 1 := by
  induction l with
  | nil => intro cur; unfold wl; split <;> simp
  | cons b t ih =>
    intro cur
    by_cases hb : blankR b.toNat = true
    · by_cases hc : cur = []
      · subst hc
        rw [wl_sep0 _ _ hb]
        have := ih []
        simp only [List.length_cons]; omega
      · rw [wl_sep _ _ _ hb hc]
        have := ih []
        simp only [List.length_cons]; omega
    · rw [wl_char _ _ _ hb]
      have := ih (cur ++ [b])
      simp only [List.length_cons]; omega
theorem words_len (s : ByteArray) : (wordsP s).length ≤ s.size + 1 := by
  rw [mkB_data s, words_wl, List.length_map, mkB_size]
  exact wl_len _ _

theorem addr0 (A k : Nat) : ((⟨A, 0, none⟩ : Addr).add k) = ⟨A, k, none⟩ := by
  unfold Addr.add
  split
  · rename_i z; rw [z]
  · simp

theorem parE (s : ByteArray) : Word s (colW s) := colW_word s

set_option maxHeartbeats 8000000 in
set_option maxRecDepth 100000 in
theorem st_Parse (s : ByteArray) (hs : s.size ≤ 281474976710656) (w : World) (E : Env w) (N : EnvN w) : Calls Tryd.prog 25 #[.string s] w fun e w' => e = .returned (parV (parseS s)) ∧ Below w.heap.size w w' := by
  by_cases big : 65536 < s.size
  · have R : Hid (parseS s = .error 3) := Lib.hid (by unfold parseS; rw [if_pos big])
    clear hs
    go_enter Tryd.func25, Tryd.ntmps25
    go_wp2_with fail
    exact bodyPost_ret (v := .tuple #[patV 0 0 0 0, .int .i64 3]) (by simp [results, Tryd.results25, go_sem]; rfl) rfl ⟨by rw [R.out]; rfl, by go_grown⟩
  have R : Hid (parseS s = parL emptyP (wordsP s)) := Lib.hid (by unfold parseS; rw [if_neg big])
  have sz : s.size ≤ 65536 := by omega
  have C := Lib.hid (st_fields s sz)
  have WS : Hid (∀ x ∈ wordsP s, x.size ≤ 281474976710656) := Lib.hid (by
    intro x hx
    unfold wordsP at hx
    obtain ⟨y, _, rfl⟩ := List.mem_map.1 hx
    rw [ByteArray.size_extract]
    omega)
  have WL : Hid ((wordsP s).length ≤ 65537) := Lib.hid (by have := words_len s; omega)
  generalize parseS s = RES at *
  generalize wordsP s = ws at *
  have E := Lib.hid E
  have N := Lib.hid N
  clear hs
  go_enter Tryd.func25, Tryd.ntmps25
  go_wp2_with fail
  refine (C.out _).mono ?_
  rintro e w1 ⟨A, rfl, ho, hb⟩
  obtain ⟨n, hn⟩ : ∃ n, n = ws.length := ⟨_, rfl⟩
  have hm : n ≤ 65537 := by rw [hn]; exact WL.out
  have SW := Lib.hid (Sees.of_own ho)
  rw [← hn]
  have HN := Lib.hid hn
  have z2 : C4 w1 w.heap.size (.int .i32 0) (.int .i32 0) (.int .u8 0) (.int .u8 0) := C4.keep (by constructor <;> simp [go_sem]) hb (by simp)
  have hb1 : Below w.heap.size w w1 := below_call (by go_grown) (by simp) hb
  have l0 := z2.lt
  have Z2 := Lib.hid z2
  have HB1 := Lib.hid hb1
  have E1 := Lib.hid (E.out.of_below hb1 (Nat.le_refl _))
  have N1 := Lib.hid (N.out.of_below hb1 (Nat.le_refl _))
  clear ho hb hn z2 hb1 C WL E N
  go_wp2_with fail
  go_loopw [6] (fun s6 wr => ∃ (k : Nat) (p : Pat), k ≤ n ∧ s6 = .int .i64 k ∧ Hid (parL p (ws.drop k) = parL emptyP ws) ∧ Hid (C4 wr w1.heap.size (.int .i32 p.fg) (.int .i32 p.bg) (.int .u8 (bI p.add)) (.int .u8 (bI p.drop)) ∧ Below w1.heap.size w1 wr)) (fun s6 _ => n - (intOf s6).toNat)
  case atStart => exact ⟨0, emptyP, by omega, rfl, Lib.hid rfl, Lib.hid ⟨by constructor <;> simp [go_sem] <;> rfl, (Below.refl _ _).alloc (Nat.le_refl _) _⟩⟩
  case round =>
    obtain ⟨k, p, hk, rfl, hp, hc⟩ := hrel
    by_cases lt : k < n
    · have kl : k < ws.length := by have := HN.out; omega
      obtain ⟨ad, ea, hab, c0⟩ := SW.out.at (k := k) (by simpa using kl)
      cases ea
      obtain ⟨x, hx⟩ : ∃ x, x = ws[k] := ⟨_, rfl⟩
      have cx : wr.cell? ⟨A, k, none⟩ = some (.string x) := by
        rw [← addr0 A k]
        exact (hc.out.2.cell (p := (⟨A, 0, none⟩ : Addr).add k) (by rw [add_blk]; exact hab)).trans (by rw [c0, hx]; simp)
      have xs : x.size ≤ 281474976710656 := WS.out x (by rw [hx]; exact List.getElem_mem _)
      have XS := Lib.hid xs
      obtain ⟨rest, hrest⟩ : ∃ rest, rest = ws.drop (k + 1) := ⟨_, rfl⟩
      have DR : Hid (ws.drop k = x :: rest) := Lib.hid (by rw [hx, hrest]; exact List.drop_eq_getElem_cons kl)
      have HR := Lib.hid hrest
      have EW := Lib.hid (E1.out.of_below hc.out.2 (Nat.le_refl _))
      have NW := N1.out.of_below hc.out.2 (Nat.le_refl _)
      have CA := Lib.hid (st_attribute x wr NW)
      have CR := Lib.hid (st_attribute (x.extract 3 x.size) wr NW)
      have CC := Lib.hid (st_cut x wr)
      have OF : Hid (offB x = if noP x = true then attB (x.extract 3 x.size) else 0) := Lib.hid (by unfold offB noP; by_cases h : x.extract 0 3 = noB <;> simp [h])
      clear hx hrest c0 kl xs NW
      obtain ⟨p0, p1, p2, p3, r0, r1, r2, r3⟩ := hc.out.1
      obtain ⟨AA, hAA⟩ : ∃ AA, AA = attB x := ⟨_, rfl⟩
      obtain ⟨OO, hOO⟩ : ∃ OO, OO = offB x := ⟨_, rfl⟩
      rw [← hAA] at CA
      rw [← hOO] at OF
      have HAA := Lib.hid hAA
      have HOO := Lib.hid hOO
      clear hAA hOO
      have l1 : w1.heap.size < wr.heap.size := block_lt_of_cell p0
      have ne : w.heap.size ≠ w1.heap.size := by omega
      have ZW := Lib.hid (Z2.out.keep hc.out.2 l0)
      have HBW := Lib.hid (HB1.out.trans (hc.out.2.mono HB1.out.size))
      have b0 : bits .or .u8 (bI AA) 0 = bI AA := by have := b8_or AA 0; rw [b8_or0] at this; exact this
      have b0' : bits .or .u8 (bI p.drop) 0 = bI p.drop := by have := b8_or p.drop 0; rw [b8_or0] at this; exact this
      have KW := Lib.hid (tint_Parse x XS.out (colW x) (colW_word x) wr EW.out)
      have RS : Hid (RES = parL p (x :: rest)) := Lib.hid (by rw [R.out, ← hp.out, DR.out])
      have PT := Lib.hid (par_twice p x rest)
      have PB := Lib.hid (par_bits p x rest)
      have PF := Lib.hid (par_fg p x rest)
      rw [← HAA.out, ← HOO.out] at PT PB PF
      cases hno : noP x with
      | false =>
        have OF := OF.out
        rw [hno] at OF
        simp only [Bool.false_eq_true, if_false] at OF
        have CC := CC.out
        rw [hno] at CC
        simp only [Bool.false_eq_true, if_false] at CC
        have CC := Lib.hid CC
        subst OF
        have ao : AA ||| (0 : B8) = AA := b8_or0 AA
        have po : p.drop ||| (0 : B8) = p.drop := b8_or0 p.drop
        rw [ao] at PT PB PF
        rw [po] at PB
        clear ao po CR
        clear hno
        go_wp2_with fail
        refine CA.out.mono ?_; rintro e' w' ⟨rfl, rfl⟩
        go_wp2_with fail
        refine CC.out.mono ?_; rintro e' w' ⟨rfl, rfl⟩
        by_cases nz : AA ≠ 0
        · have tb : (bI (AA) != 0) = true := by rw [bI_test]; exact decide_eq_true nz
          by_cases cl : (p.add ||| p.drop) &&& (AA) ≠ 0
          · have tc : (bI ((p.add ||| p.drop) &&& (AA)) != 0) = true := by rw [bI_test]; exact decide_eq_true cl
            have RR : Hid (RES = .error 112) := Lib.hid (by rw [RS.out, PT.out nz cl])
            obtain ⟨z0, z1, z2, z3, g0, g1, g2, g3⟩ := ZW.out
            clear nz cl
            go_wp2_with fail
            refine bodyPost_ret (v := .tuple #[patV 0 0 0 0, .int .i64 112]) (by simp [results, Tryd.results25, go_sem, z0, z1, z2, z3]; rfl) rfl ⟨by rw [RR.out]; rfl, ?_⟩
            exact (((HBW.out.setCell (Nat.le_refl _) _).setCell (Nat.le_refl _) _).setCell (Nat.le_refl _) _).setCell (Nat.le_refl _) _
          · have tc : (bI ((p.add ||| p.drop) &&& (AA)) != 0) = false := by rw [bI_test]; exact decide_eq_false cl
            have RR := Lib.hid (PB.out nz cl)
            clear nz cl
            go_wp2_with fail
            go_roundw
            case rel => exact ⟨k + 1, _, by omega, by go_num, Lib.hid (by rw [← HR.out, ← RR.out, ← DR.out, hp.out]), Lib.hid ⟨(hc.out.1.set2 _).set3 _, (hc.out.2.setCell (Nat.le_refl _) _).setCell (Nat.le_refl _) _⟩⟩
            case measure => simp [intOf]; omega
        · have tb : (bI (AA) != 0) = false := by rw [bI_test]; exact decide_eq_false nz
          by_cases xo : x = onB
          · have b1 : (x.toList == [111, 110]) = true := by rw [seq_list]; exact decide_eq_true xo
            by_cases k2 : k + 1 < n
            · have kl2 : k + 1 < ws.length := by have := HN.out; omega
              obtain ⟨ad2, ea2, hab2, c02⟩ := SW.out.at (k := k + 1) (by simpa using kl2)
              cases ea2
              obtain ⟨y, hy⟩ : ∃ y, y = ws[k + 1] := ⟨_, rfl⟩
              have cy : wr.cell? ⟨A, k + 1, none⟩ = some (.string y) := by
                rw [← addr0 A (k + 1)]
                exact (hc.out.2.cell (p := (⟨A, 0, none⟩ : Addr).add (k + 1)) (by rw [add_blk]; exact hab2)).trans (by rw [c02, hy]; simp)
              have ys : y.size ≤ 281474976710656 := WS.out y (by rw [hy]; exact List.getElem_mem _)
              obtain ⟨r2, hr2⟩ : ∃ r2, r2 = ws.drop (k + 1 + 1) := ⟨_, rfl⟩
              have RY : rest = y :: r2 := by rw [HR.out, hy, hr2]; exact List.drop_eq_getElem_cons kl2
              have HR2 := Lib.hid hr2
              have KW' := Lib.hid (tint_Parse y ys (colW y) (colW_word y) wr EW.out)
              have PO : Hid (parL p (x :: rest) = match colW y with
                  | none => .error 60
                  | some c => if p.bg ≠ 0 then .error 112 else parL { p with bg := c } r2) := Lib.hid (by rw [xo, RY]; exact par_on p y r2)
              clear kl2 c02 hy ys hr2 RY xo nz
              cases hcw : colW y with
              | none =>
                have RR : Hid (RES = .error 60) := Lib.hid (by rw [RS.out, PO.out, hcw])
                have KK := KW'.out
                rw [hcw] at KK
                have KK := Lib.hid KK
                clear hcw
                go_wp2_with fail
                refine KK.out.mono ?_; rintro e' w3 ⟨rfl, hb3⟩
                obtain ⟨z0, z1, z2, z3, g0, g1, g2, g3⟩ := ZW.out.keep hb3 ZW.out.lt
                have HB3 := Lib.hid (below_call HBW.out HBW.out.size hb3)
                clear hb3
                simp only [parEnd]
                go_wp2_with fail
                refine bodyPost_ret (v := .tuple #[patV 0 0 0 0, .int .i64 60]) (by simp [results, Tryd.results25, go_sem, z0, z1, z2, z3]; rfl) rfl ⟨by rw [RR.out]; rfl, ?_⟩
                exact (((HB3.out.setCell (Nat.le_refl _) _).setCell (Nat.le_refl _) _).setCell (Nat.le_refl _) _).setCell (Nat.le_refl _) _
              | some cw =>
                have KK := KW'.out
                rw [hcw] at KK
                have KK := Lib.hid KK
                by_cases fz : p.bg ≠ 0
                · have RR : Hid (RES = .error 112) := Lib.hid (by rw [RS.out, PO.out, hcw]; simp only; rw [if_pos fz])
                  have tf : (p.bg != 0) = true := by rw [bne_iff_ne]; exact fz
                  clear hcw fz
                  go_wp2_with fail
                  refine KK.out.mono ?_; rintro e' w3 ⟨rfl, hb3⟩
                  obtain ⟨z0, z1, z2, z3, g0, g1, g2, g3⟩ := ZW.out.keep hb3 ZW.out.lt
                  obtain ⟨y0, y1, y2, y3, f0, f1, f2, f3⟩ := hc.out.1.keep hb3 hc.out.1.lt
                  have HB3 := Lib.hid (below_call HBW.out HBW.out.size hb3)
                  clear hb3
                  simp only [parEnd]
                  go_wp2_with fail
                  refine bodyPost_ret (v := .tuple #[patV 0 0 0 0, .int .i64 112]) (by simp [results, Tryd.results25, go_sem, z0, z1, z2, z3]; rfl) rfl ⟨by rw [RR.out]; rfl, ?_⟩
                  exact (((HB3.out.setCell (Nat.le_refl _) _).setCell (Nat.le_refl _) _).setCell (Nat.le_refl _) _).setCell (Nat.le_refl _) _
                · have RR : Hid (parL p (x :: rest) = parL { p with bg := cw } (ws.drop (k + 1 + 1))) := Lib.hid (by rw [PO.out, hcw]; simp only; rw [if_neg fz, HR2.out])
                  have tf : (p.bg != 0) = false := by have : p.bg = 0 := Decidable.not_not.1 fz; rw [this]; rfl
                  clear hcw fz
                  go_wp2_with fail
                  refine KK.out.mono ?_; rintro e' w3 ⟨rfl, hb3⟩
                  have K4 := Lib.hid (hc.out.1.keep hb3 hc.out.1.lt)
                  have HB3 := Lib.hid (below_call hc.out.2 hc.out.2.size hb3)
                  obtain ⟨y0, y1, y2, y3, f0, f1, f2, f3⟩ := K4.out
                  clear hb3
                  simp only [parEnd]
                  go_wp2_with fail
                  go_roundw
                  case rel => exact ⟨k + 1 + 1, _, by omega, by go_num, Lib.hid (by rw [← RR.out, ← DR.out, hp.out]), Lib.hid ⟨K4.out.set1 _, HB3.out.setCell (Nat.le_refl _) _⟩⟩
                  case measure => simp [intOf]; omega
            · have PFF := Lib.hid (PF.out nz (Or.inr (by rw [HR.out]; exact List.drop_eq_nil_of_le (by have := HN.out; omega))))
              have KW' := KW
              clear xo nz
              cases hcw : colW x with
              | none =>
                have RR : Hid (RES = .error 60) := Lib.hid (by rw [RS.out, PFF.out, hcw])
                have KK := KW'.out
                rw [hcw] at KK
                have KK := Lib.hid KK
                clear hcw
                go_wp2_with fail
                refine KK.out.mono ?_; rintro e' w3 ⟨rfl, hb3⟩
                obtain ⟨z0, z1, z2, z3, g0, g1, g2, g3⟩ := ZW.out.keep hb3 ZW.out.lt
                have HB3 := Lib.hid (below_call HBW.out HBW.out.size hb3)
                clear hb3
                simp only [parEnd]
                go_wp2_with fail
                refine bodyPost_ret (v := .tuple #[patV 0 0 0 0, .int .i64 60]) (by simp [results, Tryd.results25, go_sem, z0, z1, z2, z3]; rfl) rfl ⟨by rw [RR.out]; rfl, ?_⟩
                exact (((HB3.out.setCell (Nat.le_refl _) _).setCell (Nat.le_refl _) _).setCell (Nat.le_refl _) _).setCell (Nat.le_refl _) _
              | some cw =>
                have KK := KW'.out
                rw [hcw] at KK
                have KK := Lib.hid KK
                by_cases fz : p.fg ≠ 0
                · have RR : Hid (RES = .error 112) := Lib.hid (by rw [RS.out, PFF.out, hcw]; simp only; rw [if_pos fz])
                  have tf : (p.fg != 0) = true := by rw [bne_iff_ne]; exact fz
                  clear hcw fz
                  go_wp2_with fail
                  refine KK.out.mono ?_; rintro e' w3 ⟨rfl, hb3⟩
                  obtain ⟨z0, z1, z2, z3, g0, g1, g2, g3⟩ := ZW.out.keep hb3 ZW.out.lt
                  obtain ⟨y0, y1, y2, y3, f0, f1, f2, f3⟩ := hc.out.1.keep hb3 hc.out.1.lt
                  have HB3 := Lib.hid (below_call HBW.out HBW.out.size hb3)
                  clear hb3
                  simp only [parEnd]
                  go_wp2_with fail
                  refine bodyPost_ret (v := .tuple #[patV 0 0 0 0, .int .i64 112]) (by simp [results, Tryd.results25, go_sem, z0, z1, z2, z3]; rfl) rfl ⟨by rw [RR.out]; rfl, ?_⟩
                  exact (((HB3.out.setCell (Nat.le_refl _) _).setCell (Nat.le_refl _) _).setCell (Nat.le_refl _) _).setCell (Nat.le_refl _) _
                · have RR : Hid (parL p (x :: rest) = parL { p with fg := cw } (ws.drop (k + 1))) := Lib.hid (by rw [PFF.out, hcw]; simp only; rw [if_neg fz, HR.out])
                  have tf : (p.fg != 0) = false := by have : p.fg = 0 := Decidable.not_not.1 fz; rw [this]; rfl
                  clear hcw fz
                  go_wp2_with fail
                  refine KK.out.mono ?_; rintro e' w3 ⟨rfl, hb3⟩
                  have K4 := Lib.hid (hc.out.1.keep hb3 hc.out.1.lt)
                  have HB3 := Lib.hid (below_call hc.out.2 hc.out.2.size hb3)
                  obtain ⟨y0, y1, y2, y3, f0, f1, f2, f3⟩ := K4.out
                  clear hb3
                  simp only [parEnd]
                  go_wp2_with fail
                  go_roundw
                  case rel => exact ⟨k + 1, _, by omega, by go_num, Lib.hid (by rw [← RR.out, ← DR.out, hp.out]), Lib.hid ⟨K4.out.set0 _, HB3.out.setCell (Nat.le_refl _) _⟩⟩
                  case measure => simp [intOf]; omega
          · have b1 : (x.toList == [111, 110]) = false := by rw [seq_list]; exact decide_eq_false xo
            have PFF := Lib.hid (PF.out nz (Or.inl xo))
            have KW' := KW
            clear xo nz
            cases hcw : colW x with
            | none =>
              have RR : Hid (RES = .error 60) := Lib.hid (by rw [RS.out, PFF.out, hcw])
              have KK := KW'.out
              rw [hcw] at KK
              have KK := Lib.hid KK
              clear hcw
              go_wp2_with fail
              refine KK.out.mono ?_; rintro e' w3 ⟨rfl, hb3⟩
              obtain ⟨z0, z1, z2, z3, g0, g1, g2, g3⟩ := ZW.out.keep hb3 ZW.out.lt
              have HB3 := Lib.hid (below_call HBW.out HBW.out.size hb3)
              clear hb3
              simp only [parEnd]
              go_wp2_with fail
              refine bodyPost_ret (v := .tuple #[patV 0 0 0 0, .int .i64 60]) (by simp [results, Tryd.results25, go_sem, z0, z1, z2, z3]; rfl) rfl ⟨by rw [RR.out]; rfl, ?_⟩
              exact (((HB3.out.setCell (Nat.le_refl _) _).setCell (Nat.le_refl _) _).setCell (Nat.le_refl _) _).setCell (Nat.le_refl _) _
            | some cw =>
              have KK := KW'.out
              rw [hcw] at KK
              have KK := Lib.hid KK
              by_cases fz : p.fg ≠ 0
              · have RR : Hid (RES = .error 112) := Lib.hid (by rw [RS.out, PFF.out, hcw]; simp only; rw [if_pos fz])
                have tf : (p.fg != 0) = true := by rw [bne_iff_ne]; exact fz
                clear hcw fz
                go_wp2_with fail
                refine KK.out.mono ?_; rintro e' w3 ⟨rfl, hb3⟩
                obtain ⟨z0, z1, z2, z3, g0, g1, g2, g3⟩ := ZW.out.keep hb3 ZW.out.lt
                obtain ⟨y0, y1, y2, y3, f0, f1, f2, f3⟩ := hc.out.1.keep hb3 hc.out.1.lt
                have HB3 := Lib.hid (below_call HBW.out HBW.out.size hb3)
                clear hb3
                simp only [parEnd]
                go_wp2_with fail
                refine bodyPost_ret (v := .tuple #[patV 0 0 0 0, .int .i64 112]) (by simp [results, Tryd.results25, go_sem, z0, z1, z2, z3]; rfl) rfl ⟨by rw [RR.out]; rfl, ?_⟩
                exact (((HB3.out.setCell (Nat.le_refl _) _).setCell (Nat.le_refl _) _).setCell (Nat.le_refl _) _).setCell (Nat.le_refl _) _
              · have RR : Hid (parL p (x :: rest) = parL { p with fg := cw } (ws.drop (k + 1))) := Lib.hid (by rw [PFF.out, hcw]; simp only; rw [if_neg fz, HR.out])
                have tf : (p.fg != 0) = false := by have : p.fg = 0 := Decidable.not_not.1 fz; rw [this]; rfl
                clear hcw fz
                go_wp2_with fail
                refine KK.out.mono ?_; rintro e' w3 ⟨rfl, hb3⟩
                have K4 := Lib.hid (hc.out.1.keep hb3 hc.out.1.lt)
                have HB3 := Lib.hid (below_call hc.out.2 hc.out.2.size hb3)
                obtain ⟨y0, y1, y2, y3, f0, f1, f2, f3⟩ := K4.out
                clear hb3
                simp only [parEnd]
                go_wp2_with fail
                go_roundw
                case rel => exact ⟨k + 1, _, by omega, by go_num, Lib.hid (by rw [← RR.out, ← DR.out, hp.out]), Lib.hid ⟨K4.out.set0 _, HB3.out.setCell (Nat.le_refl _) _⟩⟩
                case measure => simp [intOf]; omega
      | true =>
        have OF := OF.out
        rw [hno] at OF
        simp only [if_true] at OF
        have CC := CC.out
        rw [hno] at CC
        simp only [if_true] at CC
        rw [← OF] at CR
        have CC := Lib.hid CC
        clear OF b0 b0'
        clear hno
        go_wp2_with fail
        refine CA.out.mono ?_; rintro e' w' ⟨rfl, rfl⟩
        go_wp2_with fail
        refine CC.out.mono ?_; rintro e' w' ⟨rfl, rfl⟩
        go_wp2_with fail
        refine CR.out.mono ?_; rintro e' w' ⟨rfl, rfl⟩
        by_cases nz : AA ||| OO ≠ 0
        · have tb : (bI (AA ||| OO) != 0) = true := by rw [bI_test]; exact decide_eq_true nz
          by_cases cl : (p.add ||| p.drop) &&& (AA ||| OO) ≠ 0
          · have tc : (bI ((p.add ||| p.drop) &&& (AA ||| OO)) != 0) = true := by rw [bI_test]; exact decide_eq_true cl
            have RR : Hid (RES = .error 112) := Lib.hid (by rw [RS.out, PT.out nz cl])
            obtain ⟨z0, z1, z2, z3, g0, g1, g2, g3⟩ := ZW.out
            clear nz cl
            go_wp2_with fail
            refine bodyPost_ret (v := .tuple #[patV 0 0 0 0, .int .i64 112]) (by simp [results, Tryd.results25, go_sem, z0, z1, z2, z3]; rfl) rfl ⟨by rw [RR.out]; rfl, ?_⟩
            exact (((HBW.out.setCell (Nat.le_refl _) _).setCell (Nat.le_refl _) _).setCell (Nat.le_refl _) _).setCell (Nat.le_refl _) _
          · have tc : (bI ((p.add ||| p.drop) &&& (AA ||| OO)) != 0) = false := by rw [bI_test]; exact decide_eq_false cl
            have RR := Lib.hid (PB.out nz cl)
            clear nz cl
            go_wp2_with fail
            go_roundw
            case rel => exact ⟨k + 1, _, by omega, by go_num, Lib.hid (by rw [← HR.out, ← RR.out, ← DR.out, hp.out]), Lib.hid ⟨(hc.out.1.set2 _).set3 _, (hc.out.2.setCell (Nat.le_refl _) _).setCell (Nat.le_refl _) _⟩⟩
            case measure => simp [intOf]; omega
        · have tb : (bI (AA ||| OO) != 0) = false := by rw [bI_test]; exact decide_eq_false nz
          by_cases xo : x = onB
          · have b1 : (x.toList == [111, 110]) = true := by rw [seq_list]; exact decide_eq_true xo
            by_cases k2 : k + 1 < n
            · have kl2 : k + 1 < ws.length := by have := HN.out; omega
              obtain ⟨ad2, ea2, hab2, c02⟩ := SW.out.at (k := k + 1) (by simpa using kl2)
              cases ea2
              obtain ⟨y, hy⟩ : ∃ y, y = ws[k + 1] := ⟨_, rfl⟩
              have cy : wr.cell? ⟨A, k + 1, none⟩ = some (.string y) := by
                rw [← addr0 A (k + 1)]
                exact (hc.out.2.cell (p := (⟨A, 0, none⟩ : Addr).add (k + 1)) (by rw [add_blk]; exact hab2)).trans (by rw [c02, hy]; simp)
              have ys : y.size ≤ 281474976710656 := WS.out y (by rw [hy]; exact List.getElem_mem _)
              obtain ⟨r2, hr2⟩ : ∃ r2, r2 = ws.drop (k + 1 + 1) := ⟨_, rfl⟩
              have RY : rest = y :: r2 := by rw [HR.out, hy, hr2]; exact List.drop_eq_getElem_cons kl2
              have HR2 := Lib.hid hr2
              have KW' := Lib.hid (tint_Parse y ys (colW y) (colW_word y) wr EW.out)
              have PO : Hid (parL p (x :: rest) = match colW y with
                  | none => .error 60
                  | some c => if p.bg ≠ 0 then .error 112 else parL { p with bg := c } r2) := Lib.hid (by rw [xo, RY]; exact par_on p y r2)
              clear kl2 c02 hy ys hr2 RY xo nz
              cases hcw : colW y with
              | none =>
                have RR : Hid (RES = .error 60) := Lib.hid (by rw [RS.out, PO.out, hcw])
                have KK := KW'.out
                rw [hcw] at KK
                have KK := Lib.hid KK
                clear hcw
                go_wp2_with fail
                refine KK.out.mono ?_; rintro e' w3 ⟨rfl, hb3⟩
                obtain ⟨z0, z1, z2, z3, g0, g1, g2, g3⟩ := ZW.out.keep hb3 ZW.out.lt
                have HB3 := Lib.hid (below_call HBW.out HBW.out.size hb3)
                clear hb3
                simp only [parEnd]
                go_wp2_with fail
                refine bodyPost_ret (v := .tuple #[patV 0 0 0 0, .int .i64 60]) (by simp [results, Tryd.results25, go_sem, z0, z1, z2, z3]; rfl) rfl ⟨by rw [RR.out]; rfl, ?_⟩
                exact (((HB3.out.setCell (Nat.le_refl _) _).setCell (Nat.le_refl _) _).setCell (Nat.le_refl _) _).setCell (Nat.le_refl _) _
              | some cw =>
                have KK := KW'.out
                rw [hcw] at KK
                have KK := Lib.hid KK
                by_cases fz : p.bg ≠ 0
                · have RR : Hid (RES = .error 112) := Lib.hid (by rw [RS.out, PO.out, hcw]; simp only; rw [if_pos fz])
                  have tf : (p.bg != 0) = true := by rw [bne_iff_ne]; exact fz
                  clear hcw fz
                  go_wp2_with fail
                  refine KK.out.mono ?_; rintro e' w3 ⟨rfl, hb3⟩
                  obtain ⟨z0, z1, z2, z3, g0, g1, g2, g3⟩ := ZW.out.keep hb3 ZW.out.lt
                  obtain ⟨y0, y1, y2, y3, f0, f1, f2, f3⟩ := hc.out.1.keep hb3 hc.out.1.lt
                  have HB3 := Lib.hid (below_call HBW.out HBW.out.size hb3)
                  clear hb3
                  simp only [parEnd]
                  go_wp2_with fail
                  refine bodyPost_ret (v := .tuple #[patV 0 0 0 0, .int .i64 112]) (by simp [results, Tryd.results25, go_sem, z0, z1, z2, z3]; rfl) rfl ⟨by rw [RR.out]; rfl, ?_⟩
                  exact (((HB3.out.setCell (Nat.le_refl _) _).setCell (Nat.le_refl _) _).setCell (Nat.le_refl _) _).setCell (Nat.le_refl _) _
                · have RR : Hid (parL p (x :: rest) = parL { p with bg := cw } (ws.drop (k + 1 + 1))) := Lib.hid (by rw [PO.out, hcw]; simp only; rw [if_neg fz, HR2.out])
                  have tf : (p.bg != 0) = false := by have : p.bg = 0 := Decidable.not_not.1 fz; rw [this]; rfl
                  clear hcw fz
                  go_wp2_with fail
                  refine KK.out.mono ?_; rintro e' w3 ⟨rfl, hb3⟩
                  have K4 := Lib.hid (hc.out.1.keep hb3 hc.out.1.lt)
                  have HB3 := Lib.hid (below_call hc.out.2 hc.out.2.size hb3)
                  obtain ⟨y0, y1, y2, y3, f0, f1, f2, f3⟩ := K4.out
                  clear hb3
                  simp only [parEnd]
                  go_wp2_with fail
                  go_roundw
                  case rel => exact ⟨k + 1 + 1, _, by omega, by go_num, Lib.hid (by rw [← RR.out, ← DR.out, hp.out]), Lib.hid ⟨K4.out.set1 _, HB3.out.setCell (Nat.le_refl _) _⟩⟩
                  case measure => simp [intOf]; omega
            · have PFF := Lib.hid (PF.out nz (Or.inr (by rw [HR.out]; exact List.drop_eq_nil_of_le (by have := HN.out; omega))))
              have KW' := KW
              clear xo nz
              cases hcw : colW x with
              | none =>
                have RR : Hid (RES = .error 60) := Lib.hid (by rw [RS.out, PFF.out, hcw])
                have KK := KW'.out
                rw [hcw] at KK
                have KK := Lib.hid KK
                clear hcw
                go_wp2_with fail
                refine KK.out.mono ?_; rintro e' w3 ⟨rfl, hb3⟩
                obtain ⟨z0, z1, z2, z3, g0, g1, g2, g3⟩ := ZW.out.keep hb3 ZW.out.lt
                have HB3 := Lib.hid (below_call HBW.out HBW.out.size hb3)
                clear hb3
                simp only [parEnd]
                go_wp2_with fail
                refine bodyPost_ret (v := .tuple #[patV 0 0 0 0, .int .i64 60]) (by simp [results, Tryd.results25, go_sem, z0, z1, z2, z3]; rfl) rfl ⟨by rw [RR.out]; rfl, ?_⟩
                exact (((HB3.out.setCell (Nat.le_refl _) _).setCell (Nat.le_refl _) _).setCell (Nat.le_refl _) _).setCell (Nat.le_refl _) _
              | some cw =>
                have KK := KW'.out
                rw [hcw] at KK
                have KK := Lib.hid KK
                by_cases fz : p.fg ≠ 0
                · have RR : Hid (RES = .error 112) := Lib.hid (by rw [RS.out, PFF.out, hcw]; simp only; rw [if_pos fz])
                  have tf : (p.fg != 0) = true := by rw [bne_iff_ne]; exact fz
                  clear hcw fz
                  go_wp2_with fail
                  refine KK.out.mono ?_; rintro e' w3 ⟨rfl, hb3⟩
                  obtain ⟨z0, z1, z2, z3, g0, g1, g2, g3⟩ := ZW.out.keep hb3 ZW.out.lt
                  obtain ⟨y0, y1, y2, y3, f0, f1, f2, f3⟩ := hc.out.1.keep hb3 hc.out.1.lt
                  have HB3 := Lib.hid (below_call HBW.out HBW.out.size hb3)
                  clear hb3
                  simp only [parEnd]
                  go_wp2_with fail
                  refine bodyPost_ret (v := .tuple #[patV 0 0 0 0, .int .i64 112]) (by simp [results, Tryd.results25, go_sem, z0, z1, z2, z3]; rfl) rfl ⟨by rw [RR.out]; rfl, ?_⟩
                  exact (((HB3.out.setCell (Nat.le_refl _) _).setCell (Nat.le_refl _) _).setCell (Nat.le_refl _) _).setCell (Nat.le_refl _) _
                · have RR : Hid (parL p (x :: rest) = parL { p with fg := cw } (ws.drop (k + 1))) := Lib.hid (by rw [PFF.out, hcw]; simp only; rw [if_neg fz, HR.out])
                  have tf : (p.fg != 0) = false := by have : p.fg = 0 := Decidable.not_not.1 fz; rw [this]; rfl
                  clear hcw fz
                  go_wp2_with fail
                  refine KK.out.mono ?_; rintro e' w3 ⟨rfl, hb3⟩
                  have K4 := Lib.hid (hc.out.1.keep hb3 hc.out.1.lt)
                  have HB3 := Lib.hid (below_call hc.out.2 hc.out.2.size hb3)
                  obtain ⟨y0, y1, y2, y3, f0, f1, f2, f3⟩ := K4.out
                  clear hb3
                  simp only [parEnd]
                  go_wp2_with fail
                  go_roundw
                  case rel => exact ⟨k + 1, _, by omega, by go_num, Lib.hid (by rw [← RR.out, ← DR.out, hp.out]), Lib.hid ⟨K4.out.set0 _, HB3.out.setCell (Nat.le_refl _) _⟩⟩
                  case measure => simp [intOf]; omega
          · have b1 : (x.toList == [111, 110]) = false := by rw [seq_list]; exact decide_eq_false xo
            have PFF := Lib.hid (PF.out nz (Or.inl xo))
            have KW' := KW
            clear xo nz
            cases hcw : colW x with
            | none =>
              have RR : Hid (RES = .error 60) := Lib.hid (by rw [RS.out, PFF.out, hcw])
              have KK := KW'.out
              rw [hcw] at KK
              have KK := Lib.hid KK
              clear hcw
              go_wp2_with fail
              refine KK.out.mono ?_; rintro e' w3 ⟨rfl, hb3⟩
              obtain ⟨z0, z1, z2, z3, g0, g1, g2, g3⟩ := ZW.out.keep hb3 ZW.out.lt
              have HB3 := Lib.hid (below_call HBW.out HBW.out.size hb3)
              clear hb3
              simp only [parEnd]
              go_wp2_with fail
              refine bodyPost_ret (v := .tuple #[patV 0 0 0 0, .int .i64 60]) (by simp [results, Tryd.results25, go_sem, z0, z1, z2, z3]; rfl) rfl ⟨by rw [RR.out]; rfl, ?_⟩
              exact (((HB3.out.setCell (Nat.le_refl _) _).setCell (Nat.le_refl _) _).setCell (Nat.le_refl _) _).setCell (Nat.le_refl _) _
            | some cw =>
              have KK := KW'.out
              rw [hcw] at KK
              have KK := Lib.hid KK
              by_cases fz : p.fg ≠ 0
              · have RR : Hid (RES = .error 112) := Lib.hid (by rw [RS.out, PFF.out, hcw]; simp only; rw [if_pos fz])
                have tf : (p.fg != 0) = true := by rw [bne_iff_ne]; exact fz
                clear hcw fz
                go_wp2_with fail
                refine KK.out.mono ?_; rintro e' w3 ⟨rfl, hb3⟩
                obtain ⟨z0, z1, z2, z3, g0, g1, g2, g3⟩ := ZW.out.keep hb3 ZW.out.lt
                obtain ⟨y0, y1, y2, y3, f0, f1, f2, f3⟩ := hc.out.1.keep hb3 hc.out.1.lt
                have HB3 := Lib.hid (below_call HBW.out HBW.out.size hb3)
                clear hb3
                simp only [parEnd]
                go_wp2_with fail
                refine bodyPost_ret (v := .tuple #[patV 0 0 0 0, .int .i64 112]) (by simp [results, Tryd.results25, go_sem, z0, z1, z2, z3]; rfl) rfl ⟨by rw [RR.out]; rfl, ?_⟩
                exact (((HB3.out.setCell (Nat.le_refl _) _).setCell (Nat.le_refl _) _).setCell (Nat.le_refl _) _).setCell (Nat.le_refl _) _
              · have RR : Hid (parL p (x :: rest) = parL { p with fg := cw } (ws.drop (k + 1))) := Lib.hid (by rw [PFF.out, hcw]; simp only; rw [if_neg fz, HR.out])
                have tf : (p.fg != 0) = false := by have : p.fg = 0 := Decidable.not_not.1 fz; rw [this]; rfl
                clear hcw fz
                go_wp2_with fail
                refine KK.out.mono ?_; rintro e' w3 ⟨rfl, hb3⟩
                have K4 := Lib.hid (hc.out.1.keep hb3 hc.out.1.lt)
                have HB3 := Lib.hid (below_call hc.out.2 hc.out.2.size hb3)
                obtain ⟨y0, y1, y2, y3, f0, f1, f2, f3⟩ := K4.out
                clear hb3
                simp only [parEnd]
                go_wp2_with fail
                go_roundw
                case rel => exact ⟨k + 1, _, by omega, by go_num, Lib.hid (by rw [← RR.out, ← DR.out, hp.out]), Lib.hid ⟨K4.out.set0 _, HB3.out.setCell (Nat.le_refl _) _⟩⟩
                case measure => simp [intOf]; omega
    · have ek : k = n := by omega
      subst ek
      have RR : Hid (RES = .ok p) := Lib.hid (by rw [R.out, ← hp.out, HN.out, List.drop_length]; unfold parL; rfl)
      obtain ⟨p0, p1, p2, p3, r0, r1, r2, r3⟩ := hc.out.1
      obtain ⟨z0, z1, z2, z3, g0, g1, g2, g3⟩ := Z2.out.keep hc.out.2 l0
      have HBW := Lib.hid (HB1.out.trans (hc.out.2.mono HB1.out.size))
      go_wp2_with fail
      refine bodyPost_ret (v := .tuple #[patV p.fg p.bg p.add p.drop, .int .i64 0]) (by simp [results, Tryd.results25, go_sem, z0, z1, z2, z3]) rfl ⟨by rw [RR.out]; rfl, ?_⟩
      exact (((HBW.out.setCell (Nat.le_refl _) _).setCell (Nat.le_refl _) _).setCell (Nat.le_refl _) _).setCell (Nat.le_refl _) _
end Go.Proofs.YthcdcbibbfdjmaaDoor
