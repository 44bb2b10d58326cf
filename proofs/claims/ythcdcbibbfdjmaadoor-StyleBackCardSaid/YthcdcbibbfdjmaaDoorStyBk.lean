/- The law StyleBack: the walk. -/
import Derived.Test.YthcdcbibbfdjmaaDoorStyTx
import Derived.Test.YthcdcbibbfdjmaaDoorStyH
import Derived.Test.YthcdcbibbfdjmaaDoorStyD
namespace Go.Proofs.YthcdcbibbfdjmaaDoor
open Go.RowKit Go.Sort
set_option linter.unusedVariables false

theorem then_none' (p : Pat) : Gives 29 #[patV p.fg p.bg p.add p.drop, patV 0 0 0 0] (patV (thenP p emptyP).fg (thenP p emptyP).bg (thenP p emptyP).add (thenP p emptyP).drop) := st_Then _ _ _ _ 0 0 0 0
theorem text_size' (p : Pat) (t : ByteArray) (h : textS p = some t) : t.size ≤ 65536 := by
  unfold textS at h
  split at h
  · cases h
    exact (parse_text _ (told_ok p)).2
  · cases h
theorem okP_col (q : Pat) (h : okP q) : col32 q.fg ∧ col32 q.bg := by
  have g : ∀ c : Int, (c = 0 ∨ colP c) → col32 c := fun c h => by
    rcases h with rfl | rfl | h | h
    · exact ⟨by decide, by decide⟩
    · exact ⟨by decide, by decide⟩
    · exact ⟨by omega, by omega⟩
    · exact ⟨by omega, by omega⟩
  exact ⟨g _ h.1, g _ h.2.1⟩

theorem par_err : ∀ (n : Nat) (ws : List ByteArray) (p : Pat) (e : Int), ws.length ≤ n → parL p ws = .error e → e ≠ 0 := by
  intro n
  induction n with
  | zero =>
    intro ws p e hl h
    have : ws = [] := List.eq_nil_of_length_eq_zero (by omega)
    subst this
    unfold parL at h
    cases h
  | succ n ih =>
    intro ws p e hl h
    cases ws with
    | nil => unfold parL at h; cases h
    | cons x r =>
      simp only [List.length_cons] at hl
      unfold parL at h
      split at h
      · split at h
        · cases h; decide
        · exact ih r _ e (by omega) h
      · split at h
        · cases r with
          | nil => cases h; decide
          | cons y r' =>
            simp only [List.length_cons] at hl
            simp only at h
            split at h
            · cases h; decide
            · split at h
              · cases h; decide
              · exact ih r' _ e (by omega) h
        · split at h
          · cases h; decide
          · split at h
            · cases h; decide
            · exact ih r _ e (by omega) h
theorem parse_err (s : ByteArray) (e : Int) (h : parseS s = .error e) : e ≠ 0 := by
  unfold parseS at h
  split at h
  · cases h; decide
  · exact par_err _ _ _ e (Nat.le_refl _) h

set_option maxHeartbeats 16000000 in
set_option maxRecDepth 100000 in
theorem styleBack_walk (p : Pat) (s : ByteArray) (hf : col32 p.fg) (hb : col32 p.bg) (hs : s.size ≤ 281474976710656) (w : World) (E : Env w) (N : EnvN w)
    (A : ∀ W, Below w.heap.size w W → Calls Tryd.prog 21 #[] W fun e w' => e = .returned (.bool true) ∧ Below W.heap.size W w') :
    Calls Tryd.prog 13 #[patV p.fg p.bg p.add p.drop, .string s] w fun e w' => e = .returned (.bool true) ∧ Below w.heap.size w w' := by
  have A := Lib.hid A
  have EN : Hid (∀ W, Below w.heap.size w W → Env W ∧ EnvN W) := Lib.hid (fun W hb => ⟨E.of_below hb (Nat.le_refl _), N.of_below hb (Nat.le_refl _)⟩)
  have C1 : Hid (∀ W, Below w.heap.size w W → Calls Tryd.prog 35 #[patV p.fg p.bg p.add p.drop] W fun e w' => e = .returned (textV (textS p)) ∧ Below W.heap.size W w') := Lib.hid (fun W hb' => st_Text p hf hb W (EN.out W hb').1 (EN.out W hb').2)
  have C2 : Hid (∀ W, Below w.heap.size w W → Calls Tryd.prog 25 #[.string s] W fun e w' => e = .returned (parV (parseS s)) ∧ Below W.heap.size W w') := Lib.hid (fun W hb' => st_Parse s hs W (EN.out W hb').1 (EN.out W hb').2)
  have TB := Lib.hid (fun t h => text_back p t h)
  have TSZ := Lib.hid (fun t h => text_size' p t h)
  have PK := Lib.hid (fun q h => parse_back s q h)
  have PO := Lib.hid (fun q h => parse_ok s q h)
  have TN := Lib.hid (fun W => (then_none' p).later (w := W))
  clear E N hf hb hs
  -- the second half: from region 6 on
  have TAIL : Hid True := Lib.hid trivial
  go_enter Tryd.func13, Tryd.ntmps13
  go_wp2_with fail
  refine (C1.out _ (by go_grown)).mono ?_; rintro e w1 ⟨rfl, hb1⟩
  have k0 : C4 w1 w.heap.size (.int .i32 p.fg) (.int .i32 p.bg) (.int .u8 (bI p.add)) (.int .u8 (bI p.drop)) := C4.keep (by constructor <;> simp [go_sem]) hb1 (by simp)
  have HB1 : Below w.heap.size w w1 := below_call (by go_grown) (by simp) hb1
  have HB := Lib.hid HB1
  clear hb1
  cases ht : textS p with
  | none =>
    simp only [textV]
    have HBX := HB
    clear ht
    go_wp2_with fail
    refine (C2.out _ HBX.out).mono ?_; rintro e w5 ⟨rfl, hb5⟩
    have HB5 := Lib.hid (below_call HBX.out HBX.out.size hb5)
    clear hb5
    cases hp : parseS s with
    | error ec =>
      have g : (ec != 0) = true := by rw [bne_iff_ne]; exact parse_err s ec hp
      have CA := Lib.hid (A.out (w5.alloc (.cells #[.int .i32 0, .int .i32 0, .int .u8 0, .int .u8 0] 36)) (HB5.out.alloc HB5.out.size _))
      skip
      simp only [parV]
      clear hp
      go_wp2_with fail
      refine CA.out.mono ?_; rintro e' w6 ⟨rfl, hb6⟩
      have HB6 := Lib.hid (below_call (HB5.out.alloc HB5.out.size _) (by simp; have := HB5.out.size; omega) hb6)
      go_wp2_with fail
      go_ret
      exact ⟨rfl, HB6.out⟩
    | ok q =>
      obtain ⟨t', ht1, ht2⟩ := PK.out q hp
      have CQ := Lib.hid (okP_col q (PO.out q hp))
      have TZ' := text_size' q t' ht1
      have D1 : Hid (∀ W, Below w.heap.size w W → Calls Tryd.prog 35 #[patV q.fg q.bg q.add q.drop] W fun e w' => e = .returned (textV (some t')) ∧ Below W.heap.size W w') := Lib.hid (fun W hb' => by
        have := st_Text q CQ.out.1 CQ.out.2 W (EN.out W hb').1 (EN.out W hb').2
        rw [ht1] at this
        exact this)
      have D2 : Hid (∀ W, Below w.heap.size w W → Calls Tryd.prog 25 #[.string t'] W fun e w' => e = .returned (parV (.ok q)) ∧ Below W.heap.size W w') := Lib.hid (fun W hb' => by
        have := st_Parse t' (by omega) W (EN.out W hb').1 (EN.out W hb').2
        rw [ht2] at this
        exact this)
      simp only [parV]
      have K9 : C4 (w5.alloc (.cells #[.int .i32 q.fg, .int .i32 q.bg, .int .u8 (bI q.add), .int .u8 (bI q.drop)] 36)) w5.heap.size (.int .i32 q.fg) (.int .i32 q.bg) (.int .u8 (bI q.add)) (.int .u8 (bI q.drop)) := by constructor <;> simp [go_sem]
      have HB6 := Lib.hid (HB5.out.alloc HB5.out.size (.cells #[.int .i32 q.fg, .int .i32 q.bg, .int .u8 (bI q.add), .int .u8 (bI q.drop)] 36))
      clear hp ht1 ht2 TZ'
      go_wp2_with fail
      refine (D1.out _ HB6.out).mono ?_; rintro e' w6 ⟨rfl, hb6⟩
      have K9 := K9.keep hb6 K9.lt
      have HB7 := Lib.hid (below_call HB6.out HB6.out.size hb6)
      clear hb6
      simp only [textV]
      go_wp2_with fail
      refine (D2.out _ HB7.out).mono ?_; rintro e' w7 ⟨rfl, hb7⟩
      have K9 := (K9.keep hb7 K9.lt).alloc (.cells #[.int .i32 q.fg, .int .i32 q.bg, .int .u8 (bI q.add), .int .u8 (bI q.drop)] 36)
      have HB8 := below_call HB7.out HB7.out.size hb7
      have HB8 := Lib.hid (HB8.alloc HB8.size (.cells #[.int .i32 q.fg, .int .i32 q.bg, .int .u8 (bI q.add), .int .u8 (bI q.drop)] 36))
      clear hb7
      obtain ⟨a0, a1, a2, a3, f0, f1, f2, f3⟩ := K9
      simp only [parV]
      go_wp2_with fail
      refine (A.out _ HB8.out).mono ?_; rintro e' w8 ⟨rfl, hb8⟩
      have HB9 := Lib.hid (below_call HB8.out HB8.out.size hb8)
      go_wp2_with fail
      go_ret
      exact ⟨rfl, HB9.out⟩
  | some t =>
    have TP := TB.out t ht
    have TZ := TSZ.out t ht
    have CP : Hid (∀ W, Below w.heap.size w W → Calls Tryd.prog 25 #[.string t] W fun e w' => e = .returned (parV (.ok (thenP p emptyP))) ∧ Below W.heap.size W w') := Lib.hid (fun W hb' => by
      have := st_Parse t (by omega) W (EN.out W hb').1 (EN.out W hb').2
      rw [TP] at this
      exact this)
    simp only [textV]
    generalize thenP p emptyP = y at *
    clear ht TP TZ
    go_wp2_with fail
    refine (CP.out w1 HB.out).mono ?_; rintro e w2 ⟨rfl, hb2⟩
    simp only [parV]
    have k1 := (k0.keep hb2 k0.lt).alloc (.cells #[.int .i32 y.fg, .int .i32 y.bg, .int .u8 (bI y.add), .int .u8 (bI y.drop)] 36)
    have k7 : C4 (w2.alloc (.cells #[.int .i32 y.fg, .int .i32 y.bg, .int .u8 (bI y.add), .int .u8 (bI y.drop)] 36)) w2.heap.size (.int .i32 y.fg) (.int .i32 y.bg) (.int .u8 (bI y.add)) (.int .u8 (bI y.drop)) := by constructor <;> simp [go_sem]
    have HB2 := below_call HB1 HB1.size hb2
    have HB3 := HB2.alloc HB2.size (.cells #[.int .i32 y.fg, .int .i32 y.bg, .int .u8 (bI y.add), .int .u8 (bI y.drop)] 36)
    go_upto_region 4 with fail
    obtain ⟨X, hX⟩ : ∃ X, X = w2.alloc (.cells #[.int .i32 y.fg, .int .i32 y.bg, .int .u8 (bI y.add), .int .u8 (bI y.drop)] 36) := ⟨_, rfl⟩
    rw [← hX] at k1 k7 HB3 ⊢
    clear hX hb2 HB2
    have HB3 := Lib.hid HB3
    have g10 := fun d os => ((k1).regrown d os).c0
    have g11 := fun d os => ((k1).regrown d os).c1
    have g12 := fun d os => ((k1).regrown d os).c2
    have g13 := fun d os => ((k1).regrown d os).c3
    have g70 := fun d os => ((k7).regrown d os).c0
    have g71 := fun d os => ((k7).regrown d os).c1
    have g72 := fun d os => ((k7).regrown d os).c2
    have g73 := fun d os => ((k7).regrown d os).c3
    clear k0 k1 k7
    refine wp_region_spec 8 [] [] (by kernel_rfl) (by kernel_rfl) (by kernel_rfl) (by intro t ht; cases ht) ?_
    simp only [List.take_succ_cons, List.take_zero, List.drop_succ_cons, List.drop_zero]
    repeat (refine wpS_step (by rfl) (fun K hK => ?_); go_simp; first | (refine hK _ ?_; clear hK K) | (apply Exists.intro; refine ⟨fun _ => ?_, hK _ ?_⟩; (exact TN.out _); clear hK K))
    refine wpS_nil ?_
    intro W4 vs4 hl hv
    have HBX := Lib.hid (HB3.out.trans ((later_below.1 hl).mono HB3.out.size))
    clear hl hv
    simp only [fillA]
    go_wp2_with fail
    refine (C2.out _ HBX.out).mono ?_; rintro e w5 ⟨rfl, hb5⟩
    have HB5 := Lib.hid (below_call HBX.out HBX.out.size hb5)
    clear hb5
    cases hp : parseS s with
    | error ec =>
      have g : (ec != 0) = true := by rw [bne_iff_ne]; exact parse_err s ec hp
      have CA := Lib.hid (A.out (w5.alloc (.cells #[.int .i32 0, .int .i32 0, .int .u8 0, .int .u8 0] 36)) (HB5.out.alloc HB5.out.size _))
      skip
      simp only [parV]
      clear hp
      go_wp2_with fail
      refine CA.out.mono ?_; rintro e' w6 ⟨rfl, hb6⟩
      have HB6 := Lib.hid (below_call (HB5.out.alloc HB5.out.size _) (by simp; have := HB5.out.size; omega) hb6)
      go_wp2_with fail
      go_ret
      exact ⟨rfl, HB6.out⟩
    | ok q =>
      obtain ⟨t', ht1, ht2⟩ := PK.out q hp
      have CQ := Lib.hid (okP_col q (PO.out q hp))
      have TZ' := text_size' q t' ht1
      have D1 : Hid (∀ W, Below w.heap.size w W → Calls Tryd.prog 35 #[patV q.fg q.bg q.add q.drop] W fun e w' => e = .returned (textV (some t')) ∧ Below W.heap.size W w') := Lib.hid (fun W hb' => by
        have := st_Text q CQ.out.1 CQ.out.2 W (EN.out W hb').1 (EN.out W hb').2
        rw [ht1] at this
        exact this)
      have D2 : Hid (∀ W, Below w.heap.size w W → Calls Tryd.prog 25 #[.string t'] W fun e w' => e = .returned (parV (.ok q)) ∧ Below W.heap.size W w') := Lib.hid (fun W hb' => by
        have := st_Parse t' (by omega) W (EN.out W hb').1 (EN.out W hb').2
        rw [ht2] at this
        exact this)
      simp only [parV]
      have K9 : C4 (w5.alloc (.cells #[.int .i32 q.fg, .int .i32 q.bg, .int .u8 (bI q.add), .int .u8 (bI q.drop)] 36)) w5.heap.size (.int .i32 q.fg) (.int .i32 q.bg) (.int .u8 (bI q.add)) (.int .u8 (bI q.drop)) := by constructor <;> simp [go_sem]
      have HB6 := Lib.hid (HB5.out.alloc HB5.out.size (.cells #[.int .i32 q.fg, .int .i32 q.bg, .int .u8 (bI q.add), .int .u8 (bI q.drop)] 36))
      clear hp ht1 ht2 TZ'
      go_wp2_with fail
      refine (D1.out _ HB6.out).mono ?_; rintro e' w6 ⟨rfl, hb6⟩
      have K9 := K9.keep hb6 K9.lt
      have HB7 := Lib.hid (below_call HB6.out HB6.out.size hb6)
      clear hb6
      simp only [textV]
      go_wp2_with fail
      refine (D2.out _ HB7.out).mono ?_; rintro e' w7 ⟨rfl, hb7⟩
      have K9 := (K9.keep hb7 K9.lt).alloc (.cells #[.int .i32 q.fg, .int .i32 q.bg, .int .u8 (bI q.add), .int .u8 (bI q.drop)] 36)
      have HB8 := below_call HB7.out HB7.out.size hb7
      have HB8 := Lib.hid (HB8.alloc HB8.size (.cells #[.int .i32 q.fg, .int .i32 q.bg, .int .u8 (bI q.add), .int .u8 (bI q.drop)] 36))
      clear hb7
      obtain ⟨a0, a1, a2, a3, f0, f1, f2, f3⟩ := K9
      simp only [parV]
      go_wp2_with fail
      refine (A.out _ HB8.out).mono ?_; rintro e' w8 ⟨rfl, hb8⟩
      have HB9 := Lib.hid (below_call HB8.out HB8.out.size hb8)
      go_wp2_with fail
      go_ret
      exact ⟨rfl, HB9.out⟩
end Go.Proofs.YthcdcbibbfdjmaaDoor
