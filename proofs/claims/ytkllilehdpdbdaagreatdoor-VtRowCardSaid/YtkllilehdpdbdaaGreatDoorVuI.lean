/- VtRow: the walk. -/
import Derived.Test.YtkllilehdpdbdaaGreatDoorVuFl
import Derived.Test.YtkllilehdpdbdaaGreatDoorVuPl
import Derived.Test.YtkllilehdpdbdaaGreatDoorVyL
import Derived.Test.YtkllilehdpdbdaaGreatDoorVyT
import Derived.Deep.CutBlock
namespace Go.Proofs.YtkllilehdpdbdaaGreatDoor
open Go Go.RowKit Go.Sort
set_option linter.unusedVariables false
set_option linter.unusedSimpArgs false
section
theorem last_size : ∀ cs : List (List Int), (∀ c ∈ cs, GoodC c) → (lastB cs).size ≤ 64
  | [], _ => by decide
  | [c], h => (h c (by simp)).size
  | _ :: d :: l, h => last_size (d :: l) (fun c m => h c (List.mem_cons_of_mem _ m))
theorem row_cellsU {W : World} {A : Option Addr} {c : Nat} {l : List Cel} (K : RowAt W 49 5 (.slice A l.length c) l.length (celsV l)) (k : Nat) (hk : k < l.length) : ∃ g, A = some ⟨g, 0, none⟩ ∧ g < W.heap.size ∧ W.cell? ⟨g, k * 5, none⟩ = some (.string (l.getD k celD).text) ∧ W.cell? ⟨g, k * 5 + 1, none⟩ = some (.int .i8 (l.getD k celD).wide) ∧ W.cell? ⟨g, k * 5 + 2, none⟩ = some (.int .i32 (l.getD k celD).st.fg) ∧ W.cell? ⟨g, k * 5 + 3, none⟩ = some (.int .i32 (l.getD k celD).st.bg) ∧ W.cell? ⟨g, k * 5 + 4, none⟩ = some (.int .u8 (bI (l.getD k celD).st.at_)) := by
  obtain ⟨g, cap, ec, eo, ho, hc⟩ := K.slice (by omega)
  simp only [Value.slice.injEq] at ec
  obtain ⟨rfl, _, rfl⟩ := ec
  obtain ⟨cur, hcu⟩ := own_block ho
  have at_ : ∀ j, j < 5 → W.cell? ⟨g, k * 5 + j, none⟩ = (celV (l.getD k celD))[j]? := fun j hj => by
    rw [ho.cellAt _ (by omega)]
    exact celsV_at l k hk j hj
  exact ⟨g, rfl, (Array.getElem?_eq_some_iff.1 hcu).1, at_ 0 (by decide), at_ 1 (by decide), at_ 2 (by decide), at_ 3 (by decide), at_ 4 (by decide)⟩
theorem seen_cellsU (t : Trm) : (seenT t).cells = t.cells := by unfold seenT; split <;> rfl
/-- what was written is told: what is newer than the terminal stays -/
theorem writtenU {W V V' : World} {b : Nat} {t : Trm} (h : St W [] b t V) (hb : Below V.heap.size V V') (hl : t.wrt.length ≤ 1048576) : Calls Tryz.prog 22 #[.pointer (some ⟨b, 0, none⟩)] V' fun e w' => ∃ A c, e = .returned (.slice A (writtenT t).length c) ∧ Below W.heap.size W w' ∧ ∀ z, V.heap.size ≤ z → z < V'.heap.size → w'.heap[z]? = V'.heap[z]? := by
  obtain ⟨F, h2, up, hF⟩ := h.holdAt hb
  refine (t_Written h2 hl).mono ?_
  rintro e w' ⟨v, rfl, ho, hs⟩
  obtain ⟨A, c, rfl⟩ := own_slc ho
  exact ⟨A, c, rfl, old_mv (up _ _ hs).mv, fun z z1 z2 => hs.mv.blk z z2 (fun m => by have := hF z m; omega)⟩
/-- what is picked so far -/
def Picked (V2 : World) (cs : List (List Int)) (A : Option Addr) (c : Nat) (wx : World) : Prop := RowK cs ∧ Below V2.heap.size V2 wx ∧ wx.ownsRow V2.heap.size 78 2 (.slice A cs.length c) cs.length (cls (clOf cs))
theorem clOf_snoc (cs : List (List Int)) (c : List Int) : cls (clOf (cs ++ [c])) = cls (clOf cs) ++ [.string (barr (textI c)), .int .i64 (wideC c)] := by
  unfold clOf
  rw [List.map_append, cls_app]
  rfl
theorem own_slc2 {w : World} {base : Nat} {T : TypeId} {v : Value} {n : Nat} {xs : List Value} (h : w.ownsRow base T 2 v n xs) : ∃ A c, v = .slice A n c := by
  rcases own2_form h with ⟨rfl, rfl⟩ | ⟨g, c, rfl, _⟩
  · exact ⟨none, 0, rfl⟩
  · exact ⟨_, _, rfl⟩
set_option maxHeartbeats 16000000 in
set_option maxRecDepth 100000 in
theorem vtRow_walk (text : ByteArray) (spare h : Int) (hs : -9223372036854775808 ≤ spare ∧ spare ≤ 9223372036854775807) (hh : -9223372036854775808 ≤ h ∧ h ≤ 9223372036854775807) (W : World) (E : EnvV W) :
    Calls Tryz.prog 13 #[.string text, .int .i64 spare, .int .i64 h] W fun e w' => e = .returned (.bool true) ∧ Below W.heap.size W w' := by
  have WK := Lib.hid (law_works W E)
  have EW : Hid (∀ V, Below W.heap.size W V → EnvV V) := Lib.hid (fun V hb => E.mv (Mv.below (F := []) hb) (by simp))
  clear E
  by_cases n1 : 65536 < text.size
  · have n1i : (65536 : Int) < (text.size : Int) := by omega
    go_enter Tryz.func13, Tryz.ntmps13
    go_wp2_with fail
    refine WK.out.mono ?_; rintro e V1 ⟨rfl, hb1⟩
    have HB := Lib.hid hb1
    clear hb1 WK
    go_wp2_with fail
    refine (law_works V1 (EW.out V1 HB.out)).mono ?_; rintro e V2 ⟨rfl, hb2⟩
    have HB2 := Lib.hid (HB.out.trans (hb2.mono HB.out.size))
    clear hb2
    go_wp2_with fail
    go_ret
    exact ⟨rfl, HB2.out⟩
  have n1i : ¬ (65536 : Int) < (text.size : Int) := by omega
  have TS := Lib.hid (show text.size ≤ 65536 by omega)
  clear n1
  go_enter Tryz.func13, Tryz.ntmps13
  go_wp2_with fail
  refine WK.out.mono ?_; rintro e V1 ⟨rfl, hb1⟩
  have FL := Lib.hid (d_Flow text TS.out V1)
  have HB1 := Lib.hid hb1
  clear hb1 WK
  go_wp2_with fail
  refine FL.out.mono ?_; rintro e V2 ⟨A, c, L, rfl, lc, SS, ll, GG, hb2⟩
  have HB2 := Lib.hid (HB1.out.trans (hb2.mono HB1.out.size))
  have E2 := Lib.hid (EW.out V2 HB2.out)
  obtain ⟨n, hn⟩ : ∃ n, n = L.length := ⟨_, rfl⟩
  rw [← hn] at lc ll ⊢
  have CE : Hid (∀ k wr, k < n → Below V2.heap.size V2 wr → ∃ ad, A = some ad ∧ wr.cell? (ad.add (k * 2)) = some (.string (L.getD k (zB, 0)).1) ∧ wr.cell? ⟨(ad.add (k * 2)).block, (ad.add (k * 2)).off + 1, none⟩ = some (.int .i64 (L.getD k (zB, 0)).2)) := Lib.hid (fun k wr hk hb => by
    obtain ⟨ad, e, h1, h2, h3⟩ := cls_at SS k (by omega)
    have ge : L.getD k (zB, 0) = L[k]'(by omega) := by rw [List.getD_eq_getElem?_getD, List.getElem?_eq_getElem (by omega)]; rfl
    rw [ge]
    exact ⟨ad, e, (hb.cell (p := ad.add (k * 2)) (by rw [add_blk]; exact h1)).trans h2, (hb.cell (p := ⟨(ad.add (k * 2)).block, (ad.add (k * 2)).off + 1, none⟩) (by simp only [add_blk]; exact h1)).trans h3⟩)
  have AB : Hid (∀ ad, A = some ad → 0 < n → ad.block < V2.heap.size) := Lib.hid (fun ad e h0 => by
    obtain ⟨ad', e', h1, _⟩ := cls_at SS 0 (by omega)
    rw [e] at e'
    cases e'
    exact h1)
  have GC : Hid (∀ k, k < n → (L.getD k (zB, 0)).1 ≠ ⟨#[10]⟩ → ∃ c, GoodC c ∧ L.getD k (zB, 0) = (barr (textI c), wideC c)) := Lib.hid (fun k hk ne => GG _ (getC_mem (by omega)) ne)
  have NB := Lib.hid (show n ≤ 262144 by have := TS.out; omega)
  have SB := Lib.hid (law_side spare 9 hs (by decide) (by decide))
  have SH := Lib.hid (law_side h 3 hh (by decide) (by decide))
  clear FL SS GG hb2 HB1 EW ll lc hn hs hh
  go_upto_block 0 with fail
  go_cut [7, 9, 10] from 7 to 89 (fun s7 s9 s10 wx => ∃ cs A3 c3, s7 = .slice A3 (List.length cs) c3 ∧ s9 = .int .i64 (sumC cs) ∧ s10 = .string (barr (textI (List.flatten cs))) ∧ Hid (Picked V2 cs A3 c3 wx))
  case first =>
    go_wp2_with fail
    go_loopw [7, 9, 10, 11, 32] (fun s7 s9 s10 s11 s32 wr => ∃ (k : Nat) (cs : List (List Int)) (A3 : Option Addr) (c3 : Nat), k ≤ n ∧ s7 = .slice A3 cs.length c3 ∧ s9 = .int .i64 (sumC cs) ∧ s10 = .string (barr (textI cs.flatten)) ∧ s11 = .string (lastB cs) ∧ s32 = .int .i64 (k : Int) ∧ Hid (Picked V2 cs A3 c3 wr)) (fun _ _ _ _ i _ => n - (intOf i).toNat)
    case atStart => exact ⟨0, [], none, 0, Nat.zero_le _, rfl, rfl, rfl, rfl, by simp, Lib.hid ⟨RowK.nil, Below.refl _ _, World.ownsRow_nil _ _ _ _⟩⟩
    case round =>
      obtain ⟨k, cs, A3, c3, hk, rfl, rfl, rfl, rfl, rfl, hr⟩ := hrel
      have s0 := sum_nonneg cs hr.out.1.good
      have s1 := hr.out.1.le
      have fz := flat_size cs hr.out.1.good
      by_cases lt : k < n
      · have q0 : (0 : Int) ≤ (k : Int) := by omega
        have q5 : (k : Int) < (n : Int) := by omega
        have tn : (k : Int).toNat = k := by omega
        have wk : IntKind.i64.wrap ((k : Int) + 1) = (k : Int) + 1 := IntWalk.i64_in _ (by have := NB.out; omega)
        by_cases full : 1000 ≤ sumC cs
        · obtain ⟨S, hS⟩ : ∃ S, S = sumC cs := ⟨_, rfl⟩
          obtain ⟨T, hT⟩ : ∃ T, T = barr (textI cs.flatten) := ⟨_, rfl⟩
          have HS := Lib.hid hS
          have HT := Lib.hid hT
          rw [← hS] at full s0 s1 fz
          rw [← hS, ← hT]
          clear hS hT CE GC fz
          generalize lastB cs = LB
          go_wp2_with fail
          go_meet
          exact ⟨cs, A3, c3, rfl, by rw [HS.out], by rw [HT.out], hr⟩
        · obtain ⟨ad, rfl, z1, z2⟩ := CE.out k wr lt hr.out.2.1
          have G1 := GC.out k lt
          generalize L.getD k (zB, 0) = p at *
          obtain ⟨t, u⟩ := p
          simp only at z1 z2 G1
          have full' : ¬ 1000 ≤ sumC cs := full
          by_cases tt : t = ⟨#[10]⟩
          · have HR := Lib.hid hr
            subst tt
            clear CE GC G1
            obtain ⟨S, hS⟩ : ∃ S, S = sumC cs := ⟨_, rfl⟩
            obtain ⟨T, hT⟩ : ∃ T, T = barr (textI cs.flatten) := ⟨_, rfl⟩
            obtain ⟨LB, hLB⟩ : ∃ LB, LB = lastB cs := ⟨_, rfl⟩
            have HS := Lib.hid hS
            have HT := Lib.hid hT
            have HL := Lib.hid hLB
            rw [← hS] at full full' s0 s1 fz
            rw [← hS, ← hT, ← hLB]
            clear hS hT hLB fz hr
            go_wp2_with fail
            go_roundw
            case rel => exact ⟨k + 1, cs, A3, c3, by omega, rfl, by rw [HS.out], by rw [HT.out], by rw [HL.out], by go_num, HR.out⟩
            case measure => simp [intOf]; omega
          · obtain ⟨c0, g0, ep⟩ := G1 tt
            simp only [Prod.mk.injEq] at ep
            obtain ⟨et, eu⟩ := ep
            have wp := wide_pos g0
            have tz := g0.size
            rw [← et] at tz
            rw [← eu] at wp
            have tb : (t.toList == [10]) = false := (eq_list t [10]).trans (decide_eq_false tt)
            have lz : (lastB cs).size ≤ 64 := last_size cs hr.out.1.good
            have HR := Lib.hid hr
            have ET := Lib.hid et
            have EU := Lib.hid eu
            have HG0 := Lib.hid g0
            clear CE GC G1 tt et eu g0
            obtain ⟨S, hS⟩ : ∃ S, S = sumC cs := ⟨_, rfl⟩
            obtain ⟨T, hT⟩ : ∃ T, T = barr (textI cs.flatten) := ⟨_, rfl⟩
            obtain ⟨LB, hLB⟩ : ∃ LB, LB = lastB cs := ⟨_, rfl⟩
            have HS := Lib.hid hS
            have HT := Lib.hid hT
            have HL := Lib.hid hLB
            rw [← hS] at full full' s0 s1 fz
            rw [← hT] at fz
            rw [← hLB] at lz
            rw [← hS, ← hT, ← hLB]
            clear hS hT hLB hr
            have ws : IntKind.i64.wrap (S + u) = S + u := IntWalk.i64_in _ (by omega)
            by_cases fit : S + u ≤ 1000
            · have JN := Lib.hid (d_Joins LB t (by omega) wr)
              obtain ⟨J, hJ⟩ : ∃ J, J = joinsB LB t := ⟨_, rfl⟩
              rw [← hJ] at JN
              have HJ := Lib.hid hJ
              have FZ := Lib.hid (show T.size ≤ 64000 ∧ cs.length ≤ 1000 by omega)
              clear hJ fz
              go_wp2_with fail
              refine JN.out.mono ?_; rintro e w2 ⟨rfl, hb2⟩
              have HR2 : Hid (Picked V2 cs A3 c3 w2) := Lib.hid ⟨HR.out.1, HR.out.2.1.trans (hb2.mono HR.out.2.1.size), own_later hb2 HR.out.2.2⟩
              have z1 := (hb2.cell (p := ad.add (k * 2)) (block_lt_of_cell z1)).trans z1
              have z2 := (hb2.cell (p := ⟨(ad.add (k * 2)).block, (ad.add (k * 2)).off + 1, none⟩) (block_lt_of_cell z2)).trans z2
              clear JN HR hb2
              cases J with
              | true =>
                go_wp2_with fail
                go_roundw
                case rel => exact ⟨k + 1, cs, A3, c3, by omega, rfl, by rw [HS.out], by rw [HT.out], by rw [HL.out], by go_num, HR2⟩
                case measure => simp [intOf]; omega
              | false =>
                have nov : (9223372036854775807 < T.size + t.size) = False := eq_false (by have := FZ.out; omega)
                obtain ⟨i0, hi0, hz0, hz1, hz2⟩ := info_parts infoC
                have HO := Lib.hid (HR2.out.2.2.alloc (.cells #[.string t, .int .i64 u] 78))
                have O1 : Hid (∀ v ∈ [Value.string t, Value.int .i64 u], v.oneCell' = true) := Lib.hid (by intro v hv; simp at hv; rcases hv with rfl | rfl <;> rfl)
                have H2 : cs.length + 1 ≤ maxLen := by unfold maxLen; have := FZ.out; omega
                have H3 : (cs.length + 1) * 24 ≤ 140737488355328 := by have := FZ.out; omega
                have H4 : V2.heap.size ≤ (w2.alloc (.cells #[.string t, .int .i64 u] 78)).heap.size := by have := HR2.out.2.1.size; simp; omega
                have NX : Hid (∀ (w3 : World) (v' : Value), w3.ownsRow V2.heap.size 78 2 v' (cs.length + 1) (cls (clOf cs) ++ [.string t, .int .i64 u]) → (w2.alloc (.cells #[.string t, .int .i64 u] 78)).grownBy w3 (Value.slice A3 cs.length c3).ownBlock → ∃ A4 c4, v' = .slice A4 (cs ++ [c0]).length c4 ∧ Picked V2 (cs ++ [c0]) A4 c4 w3 ∧ ∀ q : Addr, q.block < V2.heap.size → w3.cell? q = w2.cell? q) := Lib.hid (fun w3 v' ho hg => by
                  obtain ⟨A4, c4, rfl⟩ := own_slc2 ho
                  have hl : cs.length + 1 = (cs ++ [c0]).length := by simp
                  have bel := (HR2.out.2.1.alloc HR2.out.2.1.size (.cells #[.string t, .int .i64 u] 78)).grown hg H4 (fun g hg2 => (HR2.out.2.2.lt g hg2).1)
                  rw [hl] at ho ⊢
                  refine ⟨A4, c4, rfl, ⟨HR2.out.1.snoc HG0.out (fun _ => by rw [← HL.out, ← ET.out, ← HJ.out]) (by rw [← HS.out, ← EU.out]; exact fit), bel, ?_⟩, fun q hq => (bel.cell hq).trans (HR2.out.2.1.cell hq).symm⟩
                  rw [clOf_snoc, ← ET.out, ← EU.out]
                  exact ho)
                have ZB : Hid (ad.block < V2.heap.size) := Lib.hid (AB.out ad rfl (by omega))
                clear HR2
                go_wp2_with (at_builtin; refine wpList_append_own _ rfl (.tmp 63) (.tmp 68) 75 rfl V2.heap.size 78 i0 (.agg #[.string ⟨#[]⟩, .int .i64 0]) 2 24 Tryz.underlying75 hi0 hz0 hz1 hz2 rfl (by decide) _ _ _ rfl HO.out ⟨w2.heap.size, 0, none⟩ 1 1 [.string t, .int .i64 u] rfl rfl (cells_new w2 _ _) O1.out H2 H3 H4 ?_; intro v' w3 hown3 hg3 _; obtain ⟨A4, c4, rfl, P4, KC⟩ := NX.out w3 v' hown3 hg3; have z1 := (KC (ad.add (k * 2)) (by rw [add_blk]; exact ZB.out)).trans z1; have z2 := (KC ⟨(ad.add (k * 2)).block, (ad.add (k * 2)).off + 1, none⟩ (by simp only [add_blk]; exact ZB.out)).trans z2; have P4 := Lib.hid P4; clear hown3 hg3 NX HO KC)
                go_roundw
                case rel => exact ⟨k + 1, cs ++ [c0], A4, c4, by omega, by rw [List.length_append]; rfl, by rw [sumC_snoc, ← HS.out, ← EU.out], by rw [flat_snoc, ← HT.out, ← ET.out], by rw [last_snoc, ← ET.out], by go_num, P4⟩
                case measure => simp [intOf]; omega
            · go_wp2_with fail
              go_roundw
              case rel => exact ⟨k + 1, cs, A3, c3, by omega, rfl, by rw [HS.out], by rw [HT.out], by rw [HL.out], by go_num, HR⟩
              case measure => simp [intOf]; omega
      · have ek : k = n := by omega
        subst ek
        have q5 : ¬ (k : Int) < (k : Int) := by omega
        obtain ⟨S, hS⟩ : ∃ S, S = sumC cs := ⟨_, rfl⟩
        obtain ⟨T, hT⟩ : ∃ T, T = barr (textI cs.flatten) := ⟨_, rfl⟩
        have HS := Lib.hid hS
        have HT := Lib.hid hT
        rw [← hS, ← hT]
        clear hS hT CE GC
        generalize lastB cs = LB
        go_wp2_with fail
        go_meet
        exact ⟨cs, A3, c3, rfl, by rw [HS.out], by rw [HT.out], hr⟩
  case rest =>
    obtain ⟨cs, A3, c3, rfl, rfl, rfl, PK⟩ := hcut
    obtain ⟨V3, hV3⟩ : ∃ V3, V3 = wc := ⟨_, rfl⟩
    subst hV3
    clear CE GC AB
    have s0 := sum_nonneg cs PK.out.1.good
    have s1 := PK.out.1.le
    have fz := flat_size cs PK.out.1.good
    have r1 := side_rng spare 9 (by decide)
    have r2 := side_rng h 3 (by decide)
    obtain ⟨q, hq⟩ : ∃ q : Nat, sumC cs = (q : Int) := ⟨(sumC cs).toNat, by omega⟩
    obtain ⟨T, hT⟩ : ∃ T, T = barr (textI cs.flatten) := ⟨_, rfl⟩
    rw [← hT] at fz
    obtain ⟨P, hP⟩ : ∃ P, P = sideV spare 9 := ⟨_, rfl⟩
    obtain ⟨H, hH⟩ : ∃ H, H = sideV h 3 := ⟨_, rfl⟩
    rw [← hP] at r1 SB
    rw [← hH] at r2 SH
    obtain ⟨Wd, hWd⟩ : ∃ Wd : Nat, (q : Int) + P = (Wd : Int) := ⟨((q : Int) + P).toNat, by omega⟩
    have ws : IntKind.i64.wrap ((q : Int) + P) = (Wd : Int) := by rw [hWd]; exact IntWalk.i64_in _ (by omega)
    obtain ⟨HH, hHH⟩ : ∃ HH, HH = 1 + H := ⟨_, rfl⟩
    have wh : IntKind.i64.wrap (1 + H) = HH := by rw [hHH]; exact IntWalk.i64_in _ (by omega)
    have ar : (Wd : Int) * HH ≤ 4036 := by
      have := Int.mul_le_mul (show (Wd : Int) ≤ 1009 by omega) (show HH ≤ 4 by omega) (by omega) (by omega)
      omega
    have a0 : 0 ≤ (Wd : Int) * HH := Int.mul_nonneg (by omega) (by omega)
    obtain ⟨N, hN⟩ : ∃ N : Nat, ((Wd : Int) * HH).toNat = N := ⟨_, rfl⟩
    have RA0 := row_all PK.out.1 Wd HH (by omega) N hN (by omega)
    rw [← hT, hq, Int.toNat_natCast] at RA0
    obtain ⟨TT, hTT⟩ : ∃ TT, TT = feedT (newV Wd HH) (byL T) := ⟨_, rfl⟩
    rw [← hTT] at RA0
    obtain ⟨X, hX⟩ : ∃ X, X = if 0 < (Wd : Int) then min (q : Int) ((Wd : Int) - 1) else 0 := ⟨_, rfl⟩
    obtain ⟨sh, hsh⟩ : ∃ sh, sh = decide (0 < (Wd : Int)) := ⟨_, rfl⟩
    rw [← hX, ← hsh] at RA0
    have qN : q ≤ N := by
      have : (Wd : Int) * 1 ≤ (Wd : Int) * HH := Int.mul_le_mul_of_nonneg_left (by omega) (by omega)
      omega
    have RL0 := row_len PK.out.1 N (by omega)
    have LV0 := live_new (Wd : Int) HH (by omega) (by omega) (by omega) (by omega) (by omega)
    have LT0 := live_feed (byL T) LV0 (byL_rng T)
    rw [← hTT] at LT0
    have E3 : EnvV V3 := E2.out.mv (Mv.below (F := []) PK.out.2.1) (by simp)
    have NW := Lib.hid (t_New (Wd : Int) HH (by omega) (by omega) (by omega) (by omega) (by omega) V3 E3)
    have CVB := fun (w : World) => Lib.run_convert_string_bytes (P := Tryz.prog) w 9 29 5 T Tryz.underlying9 Tryz.underlying29 Tryz.underlying5
    obtain ⟨A3', c3', e3, lc3, S3⟩ := own2_sees PK.out.2.2
    simp only [Value.slice.injEq] at e3
    obtain ⟨rfl, _, rfl⟩ := e3
    have HB3 := Lib.hid (HB2.out.trans (PK.out.2.1.mono HB2.out.size))
    obtain ⟨m, hm⟩ : ∃ m, m = cs.length := ⟨_, rfl⟩
    have CE : Hid (∀ i wr, i < m → Below V3.heap.size V3 wr → ∃ (ad : Addr) (xn : Nat) (c : List Int), A3 = some ad ∧ GoodC c ∧ sumC (cs.take i) = (xn : Int) ∧ sumC (cs.take (i + 1)) = (xn : Int) + wideC c ∧ xn + 1 ≤ N ∧ (wideC c = 2 → xn + 2 ≤ N) ∧ wr.cell? (ad.add (i * 2)) = some (.string (barr (textI c))) ∧ wr.cell? ⟨(ad.add (i * 2)).block, (ad.add (i * 2)).off + 1, none⟩ = some (.int .i64 (wideC c)) ∧ (rowCells N cs).getD xn celD = ⟨barr (textI c), wideC c, plainS⟩ ∧ (wideC c = 2 → (rowCells N cs).getD (xn + 1) celD = ⟨zB, 0, plainS⟩) ∧ ad.block < V3.heap.size) := Lib.hid (fun i wr hi hb => by
      obtain ⟨c, hc, g, s1', r1', r2', n0, n1'⟩ := row_at PK.out.1 N i (by omega)
      have cl : i < (clOf cs).length := by unfold clOf; rw [List.length_map]; omega
      obtain ⟨ad, e, b1, b2, b3⟩ := cls_at S3 i cl
      have ge : (clOf cs)[i]'cl = (barr (textI c), wideC c) := by
        have := List.getElem?_eq_getElem cl
        unfold clOf at this ⊢
        rw [List.getElem?_map, hc] at this
        simpa using this.symm
      rw [ge] at b2 b3
      have wp := wide_pos g
      refine ⟨ad, (sumC (cs.take i)).toNat, c, e, g, by omega, by omega, by omega, fun _ => by omega, (hb.cell (p := ad.add (i * 2)) (by rw [add_blk]; exact b1)).trans b2, (hb.cell (p := ⟨(ad.add (i * 2)).block, (ad.add (i * 2)).off + 1, none⟩) (by simp only [add_blk]; exact b1)).trans b3, r1', r2', b1⟩)
    have BLK : Hid (∀ i, q ≤ i → i < N → (rowCells N cs).getD i celD = blankC) := Lib.hid (fun i h1 h2 => row_blank PK.out.1 N i (by omega) h2)
    have TZ := Lib.hid (show T.size ≤ 64000 by omega)
    have QB := Lib.hid (show q ≤ 1000 ∧ Wd ≤ 1009 ∧ N ≤ 4036 ∧ q ≤ N ∧ m ≤ 1000 by omega)
    have SE := Lib.hid (show sumC (cs.take m) = (q : Int) by rw [hm, List.take_length]; exact hq)
    have RA := Lib.hid RA0
    have RL := Lib.hid RL0
    have LT := Lib.hid LT0.1
    have LV := Lib.hid LV0
    clear RA0 RL0 LT0 LV0
    have HTT := Lib.hid hTT
    have HX := Lib.hid hX
    have HSH := Lib.hid hsh
    rw [hq, ← hT, ← hm]
    clear PK E2 HB2 s0 s1 fz r1 r2 hq hT hP hH hWd hHH ar a0 hN hTT hX hsh qN E3 S3 lc3 hm NB TS
    go_wp2_with fail
    refine (SB.out _).mono ?_; rintro e u1 ⟨rfl, hu⟩; rw [hu]; clear hu u1
    go_wp2_with fail
    refine (SH.out _).mono ?_; rintro e u1 ⟨rfl, hu⟩; rw [hu]; clear hu u1
    go_wp2_with fail
    refine NW.out.mono ?_; rintro e V4 ⟨nb, rfl, _, _, hx⟩
    obtain ⟨F, h2, up, hF⟩ := hx.holdAt (bytes_below V4 T)
    have FD := fed_bytes (V := V4) (F := F) T hF
    have FE : Hid (Calls Tryz.prog 16 #[.pointer (some ⟨nb, 0, none⟩), .slice (some ⟨V4.heap.size, 0, none⟩) T.size (grownCap V4 T.size 0 5)] (Lib.bytesWorld V4 5 T) fun e w' => e = .returned (.int .i64 0) ∧ St V3 [] nb TT w') := Lib.hid (by
      have := t_Feed h2 LV.out (some ⟨V4.heap.size, 0, none⟩) (grownCap V4 T.size 0 5) (byL T) (by rw [byL_len]; have := TZ.out; omega) (by rw [byL_len]; show 0 + T.size ≤ _; have := TZ.out; omega) (byL_rng T) FD
      rw [byL_len, ← HTT.out] at this
      refine this.mono ?_
      rintro e w' ⟨h1, h3⟩
      exact ⟨h1, up _ _ h3⟩)
    clear NW hx h2 up hF FD SB SH
    go_wp2_with fail
    refine FE.out.mono ?_; rintro e V5 ⟨rfl, S2⟩
    have SC := Lib.hid (t_Screen S2 LT.out.fine)
    have S2 := Lib.hid S2
    clear FE CVB
    go_wp2_with fail
    refine SC.out.mono ?_; rintro e V6 ⟨A, c, rfl, NR, hb6⟩
    have ec : TT.cells = rowCells N cs := by rw [← seen_cellsU, RA.out.1]
    rw [ec, RL.out] at NR
    have sv : scrV (seenT TT) A c = .agg #[.int .i64 (Wd : Int), .int .i64 HH, .slice A N c, .int .i64 X, .int .i64 0, .bool sh] := by rw [RA.out.1]; unfold scrV; simp only; rw [RL.out]
    rw [sv]
    obtain ⟨V7, hV7⟩ : ∃ V7, V7 = V6.alloc (.cells #[.int .i64 (Wd : Int), .int .i64 HH, .slice A N c, .int .i64 X, .int .i64 0, .bool sh] 42) := ⟨_, rfl⟩
    have B7 : Below V6.heap.size V6 V7 := by rw [hV7]; exact (Below.refl _ V6).alloc (Nat.le_refl _) _
    have K7 : Bk V7 V6.heap.size [.int .i64 (Wd : Int), .int .i64 HH, .slice A N c, .int .i64 X, .int .i64 0, .bool sh] 42 := by rw [hV7]; exact Bk.new V6 _ _
    obtain ⟨g, hg⟩ : ∃ g, g = V6.heap.size := ⟨_, rfl⟩
    have B57 := hb6.trans (B7.mono hb6.size)
    have GL : Hid (V5.heap.size ≤ g ∧ g < V7.heap.size) := Lib.hid ⟨by rw [hg]; exact hb6.size, by rw [hg]; exact K7.lt⟩
    have NG := Lib.hid NR.2
    have N7 := Lib.hid (NR.below B7).1
    rw [← hg] at K7
    have WR := Lib.hid (writtenU S2.out B57 (by have := LT.out.fine.wl; have := LT.out.fine.cl; have := LT.out.fine.ar; omega))
    rw [RA.out.2] at WR
    have HV7 := Lib.hid hV7
    have K7 := Lib.hid K7
    clear SC S2 NR hb6 sv B7 hV7 ec B57 RA LT LV HTT
    go_upto_region 22 with fail
    rw [← HV7.out, ← hg]
    clear HV7 hg
    have wd1 : IntKind.i64.wrap ((Wd : Int) - 1) = (Wd : Int) - 1 := IntWalk.i64_in _ (by have := QB.out; omega)
    have X0 : Hid (0 < (Wd : Int) → (if (Wd : Int) - 1 < (q : Int) then (Wd : Int) - 1 else (q : Int)) = X) := Lib.hid (fun w0 => by rw [HX.out, if_pos w0]; split <;> omega)
    go_cut [146] from 117 to 146 (fun s wx => s = .bool false ∧ Hid (Bk wx g [.int .i64 (Wd : Int), .int .i64 HH, .slice A N c, .int .i64 X, .int .i64 0, .bool sh] 42 ∧ RowAt wx 49 5 (.slice A N c) N (celsV (rowCells N cs)) ∧ Below V3.heap.size V3 wx))
    case first =>
      go_wp2_with fail
      refine WR.out.mono ?_; rintro e V8 ⟨A8, c8, rfl, hb8, zz⟩
      have K8 := K7.out.of_eq (zz g GL.out.1 GL.out.2)
      have FIN : Hid (Bk V8 g [.int .i64 (Wd : Int), .int .i64 HH, .slice A N c, .int .i64 X, .int .i64 0, .bool sh] 42 ∧ RowAt V8 49 5 (.slice A N c) N (celsV (rowCells N cs)) ∧ Below V3.heap.size V3 V8) := Lib.hid ⟨K8, N7.out.keep (fun k m => zz k (NG.out k m) (N7.out.lt k m)), hb8⟩
      have j0 := K8.c 0 _ rfl
      have j1 := K8.c 1 _ rfl
      have j2 := K8.c 2 _ rfl
      have j3 := K8.c 3 _ rfl
      have j4 := K8.c 4 _ rfl
      have j5 := K8.c 5 _ rfl
      clear WR K7 N7 hb8 zz K8
      by_cases w0 : 0 < (Wd : Int)
      · have x0 := X0.out w0
        have es : sh = true := by rw [HSH.out]; exact decide_eq_true w0
        subst es
        have x1 : (X != min (q : Int) ((Wd : Int) - 1)) = false := by
          have : X = min (q : Int) ((Wd : Int) - 1) := by rw [← x0]; split <;> omega
          rw [this]; simp
        clear x0
        go_wp2_with fail
        go_meet
        exact ⟨rfl, FIN⟩
      · have es : sh = false := by rw [HSH.out]; exact decide_eq_false w0
        subst es
        have wb : decide ((0 : Int) < (Wd : Int)) = false := decide_eq_false w0
        have wb2 : decide (0 < Wd) = false := decide_eq_false (by omega)
        clear w0
        go_wp2_with fail
        go_meet
        exact ⟨rfl, FIN⟩
    case rest =>
      obtain ⟨rfl, HF⟩ := hcut
      obtain ⟨V8, hV8⟩ : ∃ V8, V8 = wc := ⟨_, rfl⟩
      subst hV8
      clear WR K7 N7 X0 HX HSH wd1 ws wh
      have B8 := Lib.hid (Below.refl V8.heap.size V8)
      go_wp2_with fail
      go_loopw [17, 149] (fun s17 s149 wr => ∃ i xn : Nat, i ≤ m ∧ s17 = .int .i64 (xn : Int) ∧ s149 = .int .i64 (i : Int) ∧ Hid (sumC (cs.take i) = (xn : Int)) ∧ Hid (Below V8.heap.size V8 wr)) (fun _ s149 _ => m - (intOf s149).toNat)
      case atStart => exact ⟨0, 0, Nat.zero_le _, rfl, by simp, Lib.hid rfl, B8⟩
      case round =>
        obtain ⟨i, xn, hi, rfl, rfl, hx, hr⟩ := hrel
        clear B8
        have VB := Lib.hid (HF.out.2.2.trans (hr.out.mono HF.out.2.2.size))
        by_cases lt : i < m
        · obtain ⟨ad, xn', c0, rfl, g0, hx', SX, W1, W2, z1, z2, CUR, NXT, adl⟩ := CE.out i wr lt VB.out
          have xe : xn' = xn := by have := hx.out; omega
          subst xe
          have wp := wide_pos g0
          obtain ⟨t, ht⟩ : ∃ t, t = barr (textI c0) := ⟨_, rfl⟩
          rw [← ht] at z1 CUR
          clear ht g0 hx hx'
          obtain ⟨gA, rfl, lA, v0, v1, v2, v3, v4⟩ := row_cellsU (l := rowCells N cs) (by rw [RL.out]; exact HF.out.2.1) xn' (by rw [RL.out]; omega)
          rw [CUR] at v0 v1 v2 v3 v4
          have y0 : wr.cell? ⟨gA, xn' * 5, none⟩ = some (.string t) := (hr.out.cell (p := ⟨gA, xn' * 5, none⟩) lA).trans v0
          have y1 : wr.cell? ⟨gA, xn' * 5 + 1, none⟩ = some (.int .i8 (wideC c0)) := (hr.out.cell (p := ⟨gA, xn' * 5 + 1, none⟩) lA).trans v1
          have y2 : wr.cell? ⟨gA, xn' * 5 + 2, none⟩ = some (.int .i32 0) := (hr.out.cell (p := ⟨gA, xn' * 5 + 2, none⟩) lA).trans v2
          have y3 : wr.cell? ⟨gA, xn' * 5 + 3, none⟩ = some (.int .i32 0) := (hr.out.cell (p := ⟨gA, xn' * 5 + 3, none⟩) lA).trans v3
          have y4 : wr.cell? ⟨gA, xn' * 5 + 4, none⟩ = some (.int .u8 0) := (hr.out.cell (p := ⟨gA, xn' * 5 + 4, none⟩) lA).trans v4
          have q0 : (0 : Int) ≤ (i : Int) := by omega
          have q5 : (i : Int) < (m : Int) := by omega
          have tn : (i : Int).toNat = i := by omega
          have wk : IntKind.i64.wrap ((i : Int) + 1) = (i : Int) + 1 := IntWalk.i64_in _ (by have := QB.out; omega)
          have x0 : (0 : Int) ≤ (xn' : Int) := by omega
          have x5 : (xn' : Int) < (N : Int) := by omega
          have tx : (xn' : Int).toNat = xn' := by omega
          have k2 := (HF.out.1.of_eq (hr.out.block g HF.out.1.lt)).c 2 _ rfl
          obtain ⟨Y, hY⟩ : ∃ Y, Y = wr.alloc (.cells #[.string t, .int .i8 (wideC c0), .int .i32 0, .int .i32 0, .int .u8 0] 49) := ⟨_, rfl⟩
          have BY := Lib.hid (show Below wr.heap.size wr Y by rw [hY]; exact (Below.refl _ wr).alloc (Nat.le_refl _) _)
          have KY := Lib.hid (show Bk Y wr.heap.size [.string t, .int .i8 (wideC c0), .int .i32 0, .int .i32 0, .int .u8 0] 49 by rw [hY]; exact Bk.new wr _ _)
          have YB := Lib.hid (hr.out.trans (BY.out.mono hr.out.size))
          have KG := Lib.hid (HF.out.1.of_eq (YB.out.block g HF.out.1.lt))
          have HY := Lib.hid hY
          clear CE CUR hY W1 v0 v1 v2 v3 v4
          generalize xn' = xn at *
          rcases (show wideC c0 = 1 ∨ wideC c0 = 2 by omega) with eu | eu
          · -- 1
            have z1 : Y.cell? (ad.add (i * 2)) = some (.string t) := (BY.out.cell (p := ad.add (i * 2)) (block_lt_of_cell z1)).trans z1
            have z2 : Y.cell? ⟨(ad.add (i * 2)).block, (ad.add (i * 2)).off + 1, none⟩ = some (.int .i64 1) := (BY.out.cell (p := ⟨(ad.add (i * 2)).block, (ad.add (i * 2)).off + 1, none⟩) (block_lt_of_cell z2)).trans (by rw [z2, eu])
            have k00 : Y.cell? ⟨wr.heap.size, 0, none⟩ = some (.string t) := KY.out.c 0 _ rfl
            have k01 : Y.cell? ⟨wr.heap.size, 1, none⟩ = some (.int .i8 1) := by rw [← eu]; exact KY.out.c 1 _ rfl
            have kk2 := KG.out.c 2 _ rfl
            have S1E : Hid (sumC (cs.take (i + 1)) = ((xn + 1 : Nat) : Int)) := Lib.hid (by rw [SX, eu]; omega)
            have wx : IntKind.i64.wrap ((xn : Int) + 1) = ((xn + 1 : Nat) : Int) := by rw [show (xn : Int) + 1 = ((xn + 1 : Nat) : Int) by omega]; exact IntWalk.i64_in _ (by have := QB.out; omega)
            clear NXT W2 SX eu wp hr lA
            (try clear m0 m1 m2 m3 m4)
            go_upto_region 29 with fail
            rw [← HY.out]
            clear HY y0 y1 y2 y3 y4 k2
            refine wp_region_draw_tail 33 (by kernel_rfl) (by kernel_rfl) ?_
            simp only [List.take_succ_cons, List.take_zero, List.drop_succ_cons, List.drop_zero]
            repeat (first | go_big_quiet_step (fail) | quiet_step (fail))
            refine wpQuiet_nil ?_
            intro _ hw'
            obtain ⟨nq, hw''⟩ := hw'
            subst hw''
            have B2 := Lib.hid (below_drewN YB.out nq)
            have z2 := ((below_drewN (Below.refl Y.heap.size Y) nq).cell (p := ⟨(ad.add (i * 2)).block, (ad.add (i * 2)).off + 1, none⟩) (block_lt_of_cell z2)).trans z2
            clear z1 k00 k01 kk2
            go_wp2_with fail
            go_roundw
            case rel => exact ⟨i + 1, xn + 1, by omega, by go_num, by go_num, S1E, B2⟩
            case measure => simp [intOf]; omega
          · -- 2
            obtain ⟨gB, eB, lB, m0, m1, m2, m3, m4⟩ := row_cellsU (l := rowCells N cs) (by rw [RL.out]; exact HF.out.2.1) (xn + 1) (by rw [RL.out]; omega)
            simp only [Option.some.injEq, Addr.mk.injEq] at eB
            obtain ⟨rfl, _, _⟩ := eB
            rw [NXT eu] at m0 m1 m2 m3 m4
            have n0 : Y.cell? ⟨gA, (xn + 1) * 5, none⟩ = some (.string ⟨#[]⟩) := (YB.out.cell (p := ⟨gA, (xn + 1) * 5, none⟩) lA).trans m0
            have n1 : Y.cell? ⟨gA, (xn + 1) * 5 + 1, none⟩ = some (.int .i8 0) := (YB.out.cell (p := ⟨gA, (xn + 1) * 5 + 1, none⟩) lA).trans m1
            have n2 : Y.cell? ⟨gA, (xn + 1) * 5 + 2, none⟩ = some (.int .i32 0) := (YB.out.cell (p := ⟨gA, (xn + 1) * 5 + 2, none⟩) lA).trans m2
            have n3 : Y.cell? ⟨gA, (xn + 1) * 5 + 3, none⟩ = some (.int .i32 0) := (YB.out.cell (p := ⟨gA, (xn + 1) * 5 + 3, none⟩) lA).trans m3
            have n4 : Y.cell? ⟨gA, (xn + 1) * 5 + 4, none⟩ = some (.int .u8 0) := (YB.out.cell (p := ⟨gA, (xn + 1) * 5 + 4, none⟩) lA).trans m4
            have tn1 : ((xn : Int) + 1).toNat = xn + 1 := by omega
            have wx1 : IntKind.i64.wrap ((xn : Int) + 1) = (xn : Int) + 1 := IntWalk.i64_in _ (by have := QB.out; omega)
            have lt1 : (xn : Int) + 1 < (N : Int) := by have := W2 eu; omega
            have ge1 : 0 ≤ (xn : Int) + 1 := by omega
            have z1 : Y.cell? (ad.add (i * 2)) = some (.string t) := (BY.out.cell (p := ad.add (i * 2)) (block_lt_of_cell z1)).trans z1
            have z2 : Y.cell? ⟨(ad.add (i * 2)).block, (ad.add (i * 2)).off + 1, none⟩ = some (.int .i64 2) := (BY.out.cell (p := ⟨(ad.add (i * 2)).block, (ad.add (i * 2)).off + 1, none⟩) (block_lt_of_cell z2)).trans (by rw [z2, eu])
            have k00 : Y.cell? ⟨wr.heap.size, 0, none⟩ = some (.string t) := KY.out.c 0 _ rfl
            have k01 : Y.cell? ⟨wr.heap.size, 1, none⟩ = some (.int .i8 2) := by rw [← eu]; exact KY.out.c 1 _ rfl
            have kk2 := KG.out.c 2 _ rfl
            have S1E : Hid (sumC (cs.take (i + 1)) = ((xn + 2 : Nat) : Int)) := Lib.hid (by rw [SX, eu]; omega)
            have wx : IntKind.i64.wrap ((xn : Int) + 2) = ((xn + 2 : Nat) : Int) := by rw [show (xn : Int) + 2 = ((xn + 2 : Nat) : Int) by omega]; exact IntWalk.i64_in _ (by have := QB.out; omega)
            clear NXT W2 SX eu wp hr lA
            (try clear m0 m1 m2 m3 m4)
            go_upto_region 29 with fail
            rw [← HY.out]
            clear HY y0 y1 y2 y3 y4 k2
            refine wp_region_draw_tail 33 (by kernel_rfl) (by kernel_rfl) ?_
            simp only [List.take_succ_cons, List.take_zero, List.drop_succ_cons, List.drop_zero]
            repeat (first | go_big_quiet_step (fail) | quiet_step (fail))
            refine wpQuiet_nil ?_
            intro _ hw'
            obtain ⟨nq, hw''⟩ := hw'
            subst hw''
            have B2 := Lib.hid (below_drewN YB.out nq)
            have z2 := ((below_drewN (Below.refl Y.heap.size Y) nq).cell (p := ⟨(ad.add (i * 2)).block, (ad.add (i * 2)).off + 1, none⟩) (block_lt_of_cell z2)).trans z2
            clear z1 k00 k01 kk2 n0 n1 n2 n3 n4 lB
            go_wp2_with fail
            go_roundw
            case rel => exact ⟨i + 1, xn + 2, by omega, by go_num, by go_num, S1E, B2⟩
            case measure => simp [intOf]; omega
        · have ek : i = m := by omega
          subst ek
          have xq : xn = q := by have := hx.out; have := SE.out; omega
          subst xq
          have q5 : ¬ (i : Int) < (i : Int) := by omega
          have B9 := hr
          clear CE hx hr VB
          have qb := QB.out
          have k2 := (HF.out.1.of_eq (B9.out.block g HF.out.1.lt)).c 2 _ rfl
          have K2 := Lib.hid k2
          go_wp2_with fail
          go_loopw [17] (fun s17 wr => ∃ x : Nat, xn ≤ x ∧ x ≤ N ∧ s17 = .int .i64 (x : Int) ∧ Hid (Below V8.heap.size V8 wr)) (fun s17 _ => N - (intOf s17).toNat)
          case atStart => exact ⟨xn, Nat.le_refl _, by omega, rfl, B9⟩
          case round =>
            obtain ⟨x, x1, x2, rfl, hr⟩ := hrel
            clear k2 K2 B9
            have VB := Lib.hid (HF.out.2.2.trans (hr.out.mono HF.out.2.2.size))
            have k2 := (HF.out.1.of_eq (hr.out.block g HF.out.1.lt)).c 2 _ rfl
            by_cases ltx : x < N
            · obtain ⟨gA, rfl, lA, v0, v1, v2, v3, v4⟩ := row_cellsU (l := rowCells N cs) (by rw [RL.out]; exact HF.out.2.1) x (by rw [RL.out]; exact ltx)
              rw [BLK.out x x1 ltx] at v0 v1 v2 v3 v4
              have y0 : wr.cell? ⟨gA, x * 5, none⟩ = some (.string ⟨#[32]⟩) := (hr.out.cell (p := ⟨gA, x * 5, none⟩) lA).trans v0
              have y1 : wr.cell? ⟨gA, x * 5 + 1, none⟩ = some (.int .i8 1) := (hr.out.cell (p := ⟨gA, x * 5 + 1, none⟩) lA).trans v1
              have y2 : wr.cell? ⟨gA, x * 5 + 2, none⟩ = some (.int .i32 0) := (hr.out.cell (p := ⟨gA, x * 5 + 2, none⟩) lA).trans v2
              have y3 : wr.cell? ⟨gA, x * 5 + 3, none⟩ = some (.int .i32 0) := (hr.out.cell (p := ⟨gA, x * 5 + 3, none⟩) lA).trans v3
              have y4 : wr.cell? ⟨gA, x * 5 + 4, none⟩ = some (.int .u8 0) := (hr.out.cell (p := ⟨gA, x * 5 + 4, none⟩) lA).trans v4
              have q0 : (0 : Int) ≤ (x : Int) := by omega
              have q6 : (x : Int) < (N : Int) := by omega
              have tx : (x : Int).toNat = x := by omega
              have wk : IntKind.i64.wrap ((x : Int) + 1) = (x : Int) + 1 := IntWalk.i64_in _ (by omega)
              clear v0 v1 v2 v3 v4 lA
              go_wp2_with fail
              go_roundw
              case rel => exact ⟨x + 1, by omega, by omega, by go_num, hr⟩
              case measure => simp [intOf]; omega
            · have ex : x = N := by omega
              subst ex
              have q6 : ¬ (x : Int) < (x : Int) := by omega
              have FIN := Lib.hid (HB3.out.trans (VB.out.mono HB3.out.size))
              clear hr VB
              go_wp2_with fail
              go_ret
              exact ⟨rfl, FIN.out⟩
end
end Go.Proofs.YtkllilehdpdbdaaGreatDoor
