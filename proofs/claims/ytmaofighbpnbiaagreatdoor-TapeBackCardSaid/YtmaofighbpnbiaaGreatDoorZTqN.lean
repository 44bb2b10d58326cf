/- TapeBack: the walk. -/
import Derived.Test.YtmaofighbpnbiaaGreatDoorZTqM
import Derived.Test.YtmaofighbpnbiaaGreatDoorZTpZ
namespace Go.Proofs.YtmaofighbpnbiaaGreatDoor
open Go Go.RowKit Go.Sort
set_option linter.unusedVariables false
set_option linter.unusedSimpArgs false
section
theorem xor_u8 (a b : Nat) (ha : a < 256) (hb : b < 256) : bits .xor .u8 (a : Int) (b : Int) = ((a ^^^ b : Nat) : Int) ∧ a ^^^ b < 256 ∧ (b ≠ 0 → a ^^^ b ≠ a) := by
  have l : a ^^^ b < 2 ^ 8 := Nat.xor_lt_two_pow ha hb
  refine ⟨?_, l, fun nb h => nb ?_⟩
  · have ha' : a % 2 ^ IntKind.u8.bits = a := Nat.mod_eq_of_lt ha
    have hb' : b % 2 ^ IntKind.u8.bits = b := Nat.mod_eq_of_lt hb
    simp only [bits, BitVec.ofInt_natCast, BitVec.toNat_xor, BitVec.toNat_ofNat, ha', hb']
    rw [IntKind.wrap_u8]
    omega
  · have := congrArg (a ^^^ ·) h
    simp only [← Nat.xor_assoc, Nat.xor_self, Nat.zero_xor] at this
    exact this
/-- a row of bytes with one byte changed, to read -/
theorem own_turned {w : World} {LO g c k : Nat} {D : List Int} {x : Int} (o : w.ownsRow LO 5 1 (.slice (some ⟨g, 0, none⟩) D.length c) D.length (bts D)) (hk : k < D.length) (rng : Byt D) (h0 : 0 ≤ x) (h1 : x < 256) (ln : D.length ≤ 140737488355328) :
    ByteD (w.setCell ⟨g, k, none⟩ (.int .u8 x)) w.heap.size ⟨some ⟨g, 0, none⟩, c, D.set k x⟩ := by
  have hg : g < w.heap.size ∧ D.length ≤ c := by
    rcases o.2 with ⟨z, _⟩ | ⟨g', cap, cur, z, _, e, nc, _⟩
    · cases z
    · injection z with z1 z2 z3
      injection z1 with z1
      injection z1 with z1
      subst z1
      exact ⟨(Array.getElem?_eq_some_iff.1 e).1, by rw [z3]; exact nc⟩
  have cells := o.cells (g := g) rfl
  refine ⟨(fun z => by cases z), by show (D.set k x).length ≤ c; rw [List.length_set]; exact hg.2, by show (D.set k x).length ≤ _; rw [List.length_set]; exact ln, fun ne => ⟨_, rfl, hg.1, fun j u hj => ?_⟩, fun b m => ?_⟩
  · rw [Addr.add_lit, Nat.zero_add]
    rw [List.getElem?_map, List.getElem?_set] at hj
    by_cases e : k = j
    · subst e
      rw [if_pos rfl, if_pos hk] at hj
      simp only [Option.map_some, Option.some.injEq] at hj
      rw [← hj]
      have := cells k (.int .u8 (D[k])) (by unfold bts; rw [List.getElem?_map, List.getElem?_eq_getElem hk]; rfl)
      rw [Addr.add_lit, Nat.zero_add] at this
      exact World.cell?_setCell_same w ⟨g, k, none⟩ (.int .u8 x) this
    · rw [if_neg e] at hj
      have := cells j u (by unfold bts; rw [List.getElem?_map]; exact hj)
      rw [Addr.add_lit, Nat.zero_add] at this
      exact (World.cell?_setCell_other w ⟨g, k, none⟩ ⟨g, j, none⟩ (.int .u8 x) (fun z => e (congrArg Addr.off z))).trans this
  · rcases List.mem_or_eq_of_mem_set m with m | m
    · exact rng b m
    · rw [m]; exact ⟨h0, h1⟩
theorem own_byteD {w : World} {LO c : Nat} {A : Option Addr} {D : List Int} (o : w.ownsRow LO 5 1 (.slice A D.length c) D.length (bts D)) (rng : Byt D) (ln : D.length ≤ 140737488355328) : ByteD w w.heap.size ⟨A, c, D⟩ := by
  refine ⟨fun z => ?_, ?_, ln, Sees.of_own o, rng⟩
  · rcases o.2 with ⟨q, _⟩ | ⟨g, cap, cur, q, _⟩
    · injection q with q1 q2 q3
    · injection q with q1 q2 q3; have z : A = none := z; rw [z] at q1; cases q1
  · rcases o.2 with ⟨q, y⟩ | ⟨g, cap, cur, q, _, _, y, _⟩
    · show D.length ≤ c; omega
    · injection q with q1 q2 q3; show D.length ≤ c; rw [q3]; exact y
theorem own_some {w : World} {LO c : Nat} {A : Option Addr} {D : List Int} (o : w.ownsRow LO 5 1 (.slice A D.length c) D.length (bts D)) (pos : 0 < D.length) : ∃ g, A = some ⟨g, 0, none⟩ ∧ LO ≤ g ∧ g < w.heap.size ∧ (∀ i, w.frozen? ⟨g, i, none⟩ = false) ∧ ∀ j, j < D.length → w.cell? ⟨g, j, none⟩ = some (.int .u8 (D.getD j 0)) := by
  rcases o.2 with ⟨q, y⟩ | ⟨g, cap, cur, q, lo, e, _⟩
  · omega
  · injection q with q1 q2 q3
    subst q1
    refine ⟨g, rfl, lo, (Array.getElem?_eq_some_iff.1 e).1, fun i => by simp [World.frozen?, e], fun j hj => ?_⟩
    have := o.cells (g := g) rfl j (.int .u8 (D.getD j 0)) (by unfold bts; rw [List.getElem?_map, List.getElem?_eq_getElem hj, List.getD_eq_getElem?_getD, List.getElem?_eq_getElem hj]; rfl)
    rw [Addr.add_lit, Nat.zero_add] at this
    exact this
theorem own_empty (W : World) : (W.alloc (.cells #[] 5)).ownsRow W.heap.size 5 1 (.slice (some ⟨W.heap.size, 0, none⟩) 0 0) ([] : List Int).length (bts []) :=
  ⟨rfl, Or.inr ⟨W.heap.size, 0, #[], rfl, Nat.le_refl _, World.alloc_heap_new W _, Nat.le_refl _, by decide, rfl, rfl⟩⟩
theorem CpyR.readF {W w' w2 : World} {v : Value} {l : List Frm} (h : CpyR W w' v l) (hl : l.length ≤ 1000000) (tot : (l.flatMap (·.bs)).length ≤ 140737488355328) (far : ∀ j, W.heap.size ≤ j → w2.heap[j]? = w'.heap[j]?) : ∃ (A : Option Addr) (c : Nat) (L : List FA), v = .slice A L.length c ∧ frms L = l ∧ FrsD w2 w2.heap.size A c L := by
  rcases h.2 with ⟨rfl, rfl⟩ | ⟨g, L', hg, o, r, e, ok⟩
  · exact ⟨none, 0, [], rfl, rfl, fun _ => rfl, Nat.le_refl _, by simp, Sees.nil _ _ _, fun x m => by cases m⟩
  · have o2 : w2.ownsRow W.heap.size 47 2 v (cpF g 0 0 L').length ((cpF g 0 0 L').flatMap frV) := by
      refine ⟨o.1, ?_⟩
      rcases o.2 with hn | ⟨g2, cap, cur, rfl, hb, hg2, rest⟩
      · exact .inl hn
      · exact .inr ⟨g2, cap, cur, rfl, hb, (far g2 hb).trans hg2, rest⟩
    have r2 := r.keep (far g hg)
    obtain ⟨A, c, ev⟩ := own_slcF o2
    have ev := own_len o2 ev
    subst ev
    have ll : L'.length = l.length := by rw [← e, frms_len]
    have FD := own_frsE o2 (by rw [cpF_len, ll]; exact hl) (cpF_ok r2 0 (by rw [← frms_flat, e]; exact tot) L' 0 [] (by simp) (fun x m => ⟨(ok x m).1, by have := ok x m; omega, by have := ok x m; omega⟩))
    exact ⟨A, c, _, rfl, by rw [cpF_frms, shift_zero, e], FD⟩
theorem dec_bounds (D : List Int) (rng : Byt D) : (decT D).l.length ≤ 16384 ∧ ((decT D).l.flatMap (·.bs)).length ≤ 20000000000 ∧ ((decT D).code = 0 → encT (decT D).w (decT D).h (decT D).l = (D, 0)) := by
  by_cases z : (decT D).code = 0
  · have e := enc_dec D rng z
    obtain ⟨_, ck, _⟩ := enc_parts e
    obtain ⟨a, b, _⟩ := check_parts ck
    have := flat_len a
    exact ⟨b, by omega, fun _ => e⟩
  · obtain ⟨_, _, e⟩ := dec_none z
    rw [e]
    exact ⟨by decide, by decide, fun q => absurd q z⟩
theorem dec_code0 {D : List Int} (h : (decT D).code = 0) : (decT D).spot = 0 := by
  unfold decT at h ⊢
  split at h
  · exact absurd h (by decide)
  · rename_i ln
    rw [if_neg ln]
    dsimp only at h ⊢
    obtain ⟨a, b⟩ := end_code h
    rw [b]
set_option maxHeartbeats 32000000 in
set_option maxRecDepth 100000 in
theorem tapeBack_walk (w h : Int) (A : Option Addr) (c : Nat) (L : List FA) (A2 : Option Addr) (c2 : Nat) (D : List Int) (at_ turn : Int) (W : World) (E : EnvV W) (F : FrsD W W.heap.size A c L) (BD : ByteD W W.heap.size ⟨A2, c2, D⟩) (ha : -9223372036854775808 ≤ at_ ∧ at_ ≤ 9223372036854775807) (ht : 0 ≤ turn ∧ turn < 256) :
    Calls Tryz.prog 5 #[.agg #[.int .i64 w, .int .i64 h], .slice A L.length c, .slice A2 D.length c2, .int .i64 at_, .int .u8 turn] W fun e w' => e = .returned (.bool true) ∧ Below W.heap.size W w' := by
  obtain ⟨Q, hQ⟩ : ∃ Q, Q = W.alloc (.cells #[.int .i64 w, .int .i64 h] 23) := ⟨_, rfl⟩
  have BQ : Below W.heap.size W Q := by rw [hQ]; exact (Below.refl _ W).alloc (Nat.le_refl _) _
  have KQ : Bk Q W.heap.size [.int .i64 w, .int .i64 h] 23 := by rw [hQ]; exact Bk.new W _ _
  have FQ := F.below BQ (Nat.le_refl _)
  have BY := Lib.hid (law_beyond A c L W.heap.size Q FQ)
  have AL := Lib.hid (law_alive Q (E.mv (Mv.below (F := []) BQ) (by simp)))
  have HF := Lib.hid F
  have HBD := Lib.hid BD
  have HBQ := Lib.hid BQ
  have HKQ := Lib.hid KQ
  have HQ := Lib.hid hQ
  have HHT := Lib.hid ht
  clear hQ BQ KQ FQ F BD E
  obtain ⟨bb, hbb⟩ : ∃ bb, bb = beyB L := ⟨_, rfl⟩
  have HBB := Lib.hid hbb
  rw [← hbb] at BY
  clear hbb
  cases bb with
  | true =>
    go_enter Tryz.func5, Tryz.ntmps5
    go_upto_region 1 with fail
    rw [← HQ.out]
    go_wp2_with fail
    refine BY.out.mono ?_; rintro e w1 ⟨rfl, hw⟩
    rw [hw]
    clear hw
    go_wp2_with fail
    refine BY.out.mono ?_; rintro e w2 ⟨rfl, hw⟩
    rw [hw]
    clear hw
    go_wp2_with fail
    go_ret
    exact ⟨rfl, HBQ.out⟩
  | false =>
    have tot : (flatB L).length ≤ 134217728 := by have := of_decide_eq_false HBB.out.symm; omega
    go_enter Tryz.func5, Tryz.ntmps5
    go_upto_region 1 with fail
    rw [← HQ.out]
    go_wp2_with fail
    refine BY.out.mono ?_; rintro e w1 ⟨rfl, hw⟩
    rw [hw]
    clear hw BY
    go_wp2_with fail
    refine AL.out.mono ?_; rintro e V1 ⟨rfl, B1⟩
    have K1 := HKQ.out.of_eq (B1.block _ HKQ.out.lt)
    have BW1 := HBQ.out.trans (B1.mono HBQ.out.size)
    have F1 := HF.out.below BW1 (Nat.le_refl _)
    have EN := Lib.hid (t_Encode w h A c L W.heap.size V1 F1 BW1.size)
    have s0 := K1.c 0 _ rfl
    have s1 := K1.c 1 _ rfl
    have HB1 := Lib.hid BW1
    have HK1 := Lib.hid K1
    clear AL B1 K1 BW1 F1
    go_wp2_with fail
    refine EN.out.mono ?_; rintro e V2 ⟨v2, rfl, o2, B2⟩
    obtain ⟨Ea, Ec, ev0⟩ := own_slc o2
    have ev := own_len o2 ev0
    clear ev0
    obtain ⟨D1, k1, hET⟩ : ∃ D1 k1, encT w h (frms L) = (D1, k1) := ⟨_, _, rfl⟩
    rw [hET] at o2 ev ⊢
    dsimp only at o2 ev ⊢
    subst ev
    have HB2 := Lib.hid (HB1.out.trans (B2.mono HB1.out.size))
    have HK2 := Lib.hid (HK1.out.of_eq (B2.block _ HK1.out.lt))
    have HO2 := Lib.hid o2
    have HET := Lib.hid hET
    clear EN o2 B2 hET s0 s1
    go_upto_if 38 with fail
    go_cut [11, 13, 14, 15, 16, 17, 18] from 31 to 112 (fun s11 s13 s14 s15 s16 s17 s18 wx => Hid (Below W.heap.size W wx))
    case first =>
      by_cases k0 : k1 = 0
      case neg =>
        have kb : (k1 == 0) = false := by simpa using k0
        go_wp2_with fail
        go_meet
        exact HB2
      subst k0
      obtain ⟨szs, ck, dd, dln⟩ := enc_parts HET.out
      obtain ⟨_, lln, _⟩ := check_parts ck
      rw [frms_len] at lln
      have rl : ∀ f ∈ frms L, Byt f.bs := fun f m => by
        obtain ⟨x, mx, rfl⟩ := List.mem_map.1 m
        exact (HF.out.ok x mx).b.rng
      have rD := enc_byt HET.out rl
      have npos : 0 < D1.length := by rw [dd]; unfold doneL; rw [List.length_append, tail4_len]; omega
      have BD2 := own_byteD HO2.out rD (by omega)
      have DC := t_Decode Ea Ec D1 V2.heap.size V2 BD2 (Nat.le_refl _)
      have HDD := Lib.hid (dec_enc w h (frms L) D1 HET.out)
      have DC := Lib.hid DC
      have HRD := Lib.hid rD
      have HRL := Lib.hid rl
      clear dd szs ck BD2 rD rl
      go_wp2_with fail
      refine DC.out.mono ?_; rintro e V3 ⟨v3, e3, C3⟩
      rw [HDD.out] at e3 C3
      dsimp only at e3 C3
      subst e3
      obtain ⟨A3, c3, L3, rfl, eL3, FD3⟩ := C3.read (by rw [frms_len]; omega) (by rw [frms_flat]; omega)
      obtain ⟨V4, hV4⟩ : ∃ V4, V4 = V3.alloc (.cells #[.int .i64 w, .int .i64 h] 23) := ⟨_, rfl⟩
      have b4 : Below V3.heap.size V3 V4 := by rw [hV4]; exact (Below.refl _ _).alloc (Nat.le_refl _) _
      have k4 : Bk V4 V3.heap.size [.int .i64 w, .int .i64 h] 23 := by rw [hV4]; exact Bk.new _ _ _
      have B23 := C3.1
      have HW23 := Lib.hid (show W.heap.size < V3.heap.size from Nat.lt_of_lt_of_le HK2.out.lt B23.size)
      have BW4 := HB2.out.trans ((B23.trans (b4.mono B23.size)).mono HB2.out.size)
      have K4 := (HK2.out.of_eq (B23.block _ HK2.out.lt)).of_eq (b4.block _ (Nat.lt_of_lt_of_le HK2.out.lt B23.size))
      have SM := law_same30 A3 A c3 c L3 L V3.heap.size W.heap.size V4 (FD3.below b4 (Nat.le_refl _)) (HF.out.below BW4 (Nat.le_refl _)) b4.size BW4.size
      have SM : Hid (Calls Tryz.prog 24 #[.slice A3 L3.length c3, .slice A L.length c] V4 fun e w' => e = .returned (.bool true) ∧ Below V4.heap.size V4 w') := Lib.hid (SM.mono (fun e w' ⟨b, e1, e2, e3⟩ => ⟨by rw [e1, e2.2 eL3], e3⟩))
      have O4 := Lib.hid (own_callF (own_callF HO2.out B23) b4)
      have s0 := K4.c 0 _ rfl
      have s1 := K4.c 1 _ rfl
      have t0 := k4.c 0 _ rfl
      have t1 := k4.c 1 _ rfl
      have HK4 := Lib.hid K4
      have Hk4 := Lib.hid k4
      have HB4 := Lib.hid BW4
      have HV4 := Lib.hid hV4
      have n0 : ¬ (D1.length : Int) = 0 := by omega
      clear DC C3 FD3 b4 k4 B23 BW4 K4 hV4
      go_upto_region 6 with fail
      rw [← HV4.out]
      clear HV4
      go_wp2_with fail
      refine SM.out.mono ?_; rintro e V5 ⟨rfl, B5⟩
      have O5 := Lib.hid (own_callF O4.out B5)
      have HK5 := Lib.hid (HK4.out.of_eq (B5.block _ HK4.out.lt))
      have Hk5 := Lib.hid (Hk4.out.of_eq (B5.block _ Hk4.out.lt))
      have HB5 := Lib.hid (HB4.out.trans (B5.mono HB4.out.size))
      clear SM O4 HK4 Hk4 HB4 B5 s0 s1 t0 t1
      obtain ⟨r, hr⟩ : ∃ r, Int.tmod at_ (D1.length : Int) = r := ⟨_, rfl⟩
      have rb : r.natAbs < D1.length := by rw [← hr, Int.natAbs_tmod]; exact Nat.mod_lt _ npos
      go_upto_if 73 with fail
      go_cut [17] from 66 to 77 (fun s17 wx => ∃ k : Nat, s17 = .int .i64 (k : Int) ∧ k < D1.length ∧ wx = V5)
      case first =>
        by_cases neg : r < 0
        · obtain ⟨k, hk⟩ : ∃ k : Nat, (k : Int) = r + (D1.length : Int) := ⟨(r + (D1.length : Int)).toNat, by omega⟩
          have wr : IntKind.i64.wrap (r + (D1.length : Int)) = (k : Int) := by rw [hk]; exact IntWalk.i64_in _ (by omega)
          have kl : k < D1.length := by omega
          clear hk
          go_wp2_with fail
          go_meet
          exact ⟨k, rfl, kl, rfl⟩
        · obtain ⟨k, hk⟩ : ∃ k : Nat, (k : Int) = r := ⟨r.toNat, by omega⟩
          have kl : k < D1.length := by omega
          have HK := Lib.hid hk
          clear hk
          go_wp2_with fail
          go_meet
          exact ⟨k, by rw [HK.out], kl, rfl⟩
      case rest =>
        obtain ⟨k, rfl, kl, hwx⟩ := hcut
        rw [hwx]
        clear hwx hr rb
        obtain ⟨i0, hi0, hz0, hz1, hz2⟩ := info_parts infoB
        have bu : Below V5.heap.size V5 (V5.alloc (.cells #[] 5)) := (Below.refl _ V5).alloc (Nat.le_refl _) _
        have O6 := own_callF O5.out bu
        obtain ⟨ge, rfl, _, _, _, gcell⟩ := own_some O6 npos
        have OE := Lib.hid (own_empty V5)
        have NW : Hid (∀ j u, (bts D1)[j]? = some u → (V5.alloc (.cells #[] 5)).cell? ((⟨ge, 0, none⟩ : Addr).add j) = some u) := Lib.hid (O6.cells (g := ge) rfl)
        have H1 := Lib.hid (bts_one D1)
        have HL : Hid ((bts D1).length = D1.length * 1) := Lib.hid (by rw [bts_len, Nat.mul_one])
        have H2 : Hid (0 + D1.length ≤ maxLen) := Lib.hid (by unfold maxLen; omega)
        have H3 : Hid ((0 + D1.length) * 1 ≤ 140737488355328) := Lib.hid (by omega)
        have H4 : Hid (V5.heap.size ≤ (V5.alloc (.cells #[] 5)).heap.size) := Lib.hid bu.size
        obtain ⟨tn, htn⟩ : ∃ tn : Nat, turn = (tn : Int) := ⟨turn.toNat, by have := HHT.out; omega⟩
        have tb : tn < 256 := by have := HHT.out; omega
        subst htn
        obtain ⟨d0, hd0⟩ : ∃ d0 : Nat, D1.getD k 0 = (d0 : Int) := ⟨(D1.getD k 0).toNat, by have := byt_getD HRD.out k; omega⟩
        have d0b : d0 < 256 := by have := byt_getD HRD.out k; omega
        obtain ⟨xe, xl, xn⟩ := xor_u8 d0 tn d0b tb
        obtain ⟨x, hx⟩ : ∃ x, x = d0 ^^^ tn := ⟨_, rfl⟩
        rw [← hx] at xe xl xn
        have XN := Lib.hid xn
        have HD0 := Lib.hid hd0
        have NXX : Hid (∀ (w3 : World) (v' : Value), w3.ownsRow V5.heap.size 5 1 v' (0 + D1.length) (bts [] ++ bts D1) → (V5.alloc (.cells #[] 5)).grownBy w3 (Value.slice (some ⟨V5.heap.size, 0, none⟩) 0 0).ownBlock → ∃ gd cd n6, n6 = D1.length ∧ v' = .slice (some ⟨gd, 0, none⟩) n6 cd ∧ w3.cell? ⟨gd, k, none⟩ = some (.int .u8 (d0 : Int)) ∧ w3.frozen? ⟨gd, k, none⟩ = false ∧ Below V5.heap.size V5 (w3.setCell ⟨gd, k, none⟩ (.int .u8 (x : Int))) ∧ ByteD (w3.setCell ⟨gd, k, none⟩ (.int .u8 (x : Int))) (w3.setCell ⟨gd, k, none⟩ (.int .u8 (x : Int))).heap.size ⟨some ⟨gd, 0, none⟩, cd, D1.set k (x : Int)⟩) := Lib.hid (fun w3 v' ho hg => by
          rw [Nat.zero_add, show bts [] ++ bts D1 = bts D1 from rfl] at ho
          obtain ⟨Ad, cd, e⟩ := own_slc ho
          subst e
          obtain ⟨gd, rfl, lo, _, fz, gc⟩ := own_some ho npos
          have b3 : Below V5.heap.size V5 w3 := bu.grown hg H4.out (fun g hg2 => by simp [Value.ownBlock] at hg2; omega)
          refine ⟨gd, cd, _, rfl, rfl, by rw [gc k kl, HD0.out], fz k, b3.setCell (p := ⟨gd, k, none⟩) lo _, ?_⟩
          have := own_turned ho kl HRD.out (x := (x : Int)) (by omega) (by omega) (by omega)
          exact this.more (by simp))
        have q0 : (0 : Int) ≤ (k : Int) := by omega
        have q5 : (k : Int) < (D1.length : Int) := by omega
        have tk : (k : Int).toNat = k := by omega
        clear bu O6 gcell hx xn hd0
        go_wp2_with (at_builtin; refine wpList_append_own _ rfl (.tmp 78) (.tmp 79) 27 rfl V5.heap.size 5 i0 (.int .u8 0) 1 1 Tryz.underlying27 hi0 hz0 hz1 hz2 rfl (by decide) (.slice (some ⟨V5.heap.size, 0, none⟩) 0 0) 0 (bts []) rfl OE.out ⟨ge, 0, none⟩ D1.length Ec (bts D1) rfl HL.out NW.out H1.out H2.out H3.out H4.out ?_; intro v' w6 hown3 hg3 _; obtain ⟨gd, cd, n6, hn6, rfl, gk, fk, b7, y7⟩ := NXX.out w6 v' hown3 hg3; subst hn6; have B7 := Lib.hid b7; have Y7 := Lib.hid y7; clear hown3 hg3 NXX OE NW b7 y7)
        obtain ⟨V7, hV7⟩ : ∃ V7, V7 = w6.setCell ⟨gd, k, none⟩ (.int .u8 (x : Int)) := ⟨_, rfl⟩
        rw [← hV7] at B7 Y7 ⊢
        obtain ⟨D2, hD2⟩ : ∃ D2, D2 = D1.set k (x : Int) := ⟨_, rfl⟩
        have ln2 : D1.length = D2.length := by rw [hD2, List.length_set]
        rw [← hD2] at Y7
        have DC := Lib.hid (t_Decode (some ⟨gd, 0, none⟩) cd D2 V7.heap.size V7 Y7.out (Nat.le_refl _))
        have TN := Lib.hid (fun (z : tn ≠ 0) (q : decT D2 = ⟨w, h, frms L, 0, 0⟩) => turned HET.out HRL.out k kl (x : Int) (by omega) (by omega) (by rw [HD0.out]; intro y; exact XN.out z (by omega)) (by rw [← hD2]; exact q))
        have HK7 := Lib.hid (HK5.out.of_eq (B7.out.block _ HK5.out.lt))
        have Hk7 := Lib.hid (Hk5.out.of_eq (B7.out.block _ Hk5.out.lt))
        have HB7 := Lib.hid (HB5.out.trans (B7.out.mono HB5.out.size))
        have RD2 := Lib.hid Y7.out.rng
        have HW3 := Lib.hid (show W.heap.size ≤ V3.heap.size by have := HW23.out; omega)
        have HW3s := Lib.hid (show W.heap.size < V3.heap.size from HW23.out)
        rw [ln2]
        clear hV7 hD2 gk fk B7 Y7 HK5 Hk5 HB5 HD0 XN ln2 O5
        refine DC.out.mono ?_; rintro e V8 ⟨v8, rfl, C8⟩
        obtain ⟨DT, hDT⟩ : ∃ DT, decT D2 = DT := ⟨_, rfl⟩
        have bd := dec_bounds D2 RD2.out
        have sp := dec_code0 (D := D2)
        rw [hDT] at C8 TN bd sp ⊢
        obtain ⟨dw, dh, dl, dc, ds⟩ := DT
        dsimp only at C8 bd sp ⊢
        have SP := Lib.hid sp
        have bV : V3.heap.size < V7.heap.size := Hk7.out.lt
        have K8 := Hk7.out.of_eq (C8.1.block _ Hk7.out.lt)
        have j0 := K8.c 0 _ rfl
        have j1 := K8.c 1 _ rfl
        have f0 := K8.f 0
        have f1 := K8.f 1
        obtain ⟨V9, hV9⟩ : ∃ V9, V9 = (V8.setCell ⟨V3.heap.size, 0, none⟩ (.int .i64 dw)).setCell ⟨V3.heap.size, 1, none⟩ (.int .i64 dh) := ⟨_, rfl⟩
        have k9 : Bk V9 V3.heap.size [.int .i64 dw, .int .i64 dh] 23 := by
          rw [hV9]
          exact (K8.set 0 (.int .i64 dw)).set 1 (.int .i64 dh)
        have far9 : ∀ j, j ≠ V3.heap.size → V9.heap[j]? = V8.heap[j]? := fun j ne => by rw [hV9]; exact (heap_setCell_other _ _ _ _ ne).trans (heap_setCell_other _ _ _ _ ne)
        obtain ⟨A9, c9, L9, rfl, eL9, FD9⟩ := C8.readF (w2 := V9) (by omega) (by omega) (fun j hj => far9 j (by omega))
        have BW9 : Below W.heap.size W V9 := by
          rw [hV9]
          exact ((HB7.out.trans (C8.1.mono HB7.out.size)).setCell (p := ⟨V3.heap.size, 0, none⟩) HW3.out _).setCell (p := ⟨V3.heap.size, 1, none⟩) HW3.out _
        have K9 : Bk V9 W.heap.size [.int .i64 w, .int .i64 h] 23 := (HK7.out.of_eq (C8.1.block _ HK7.out.lt)).of_eq (far9 _ (by have := HW3s.out; omega))
        have SM := Lib.hid (law_same30 A9 A c9 c L9 L V9.heap.size W.heap.size V9 FD9 (HF.out.below BW9 (Nat.le_refl _)) (Nat.le_refl _) BW9.size)
        have HEL := Lib.hid eL9
        have s0 := K9.c 0 _ rfl
        have s1 := K9.c 1 _ rfl
        have t0 := k9.c 0 _ rfl
        have t1 := k9.c 1 _ rfl
        have HB9 := Lib.hid BW9
        have HV9 := Lib.hid hV9
        clear DC C8 bd sp hDT hV9 k9 far9 FD9 BW9 K9 K8 eL9 HK7 Hk7 HB7 bV
        go_upto_region 14 with fail
        rw [← HV9.out]
        clear HV9 j0 j1 f0 f1
        by_cases tz : tn = 0
        · subst tz
          go_wp2_with fail
          go_meet
          exact HB9
        have tz' : ¬ (tn : Int) = 0 := by omega
        by_cases cz : dc = 0
        case neg =>
          have cz' : (dc == 0) = false := by simpa using cz
          go_wp2_with fail
          go_meet
          exact HB9
        subst cz
        by_cases ew : dw = w
        case neg =>
          go_wp2_with fail
          go_meet
          exact HB9
        subst ew
        by_cases eh : dh = h
        case neg =>
          go_wp2_with fail
          go_meet
          exact HB9
        subst eh
        have NS : Hid (¬ frms L9 = frms L) := Lib.hid (fun z => TN.out tz (by rw [← HEL.out, z, SP.out rfl]))
        go_wp2_with fail
        refine SM.out.mono ?_; rintro e V10 ⟨b, rfl, hb, B10⟩
        have bf : b = false := by
          cases b with
          | false => rfl
          | true => exact absurd (hb.1 rfl) NS.out
        subst bf
        have FB := Lib.hid (HB9.out.trans (B10.mono HB9.out.size))
        clear hb B10 SM
        go_wp2_with fail
        go_meet
        exact FB
    case rest =>
      obtain ⟨X, hX⟩ : ∃ X, X = wc := ⟨_, rfl⟩
      rw [← hX] at hcut ⊢
      have HX := hcut
      clear hX hcut HO2 HB2 HK2 HET
      have BX := HBD.out.below HX.out (Nat.le_refl _)
      have DC := Lib.hid (t_Decode A2 c2 D W.heap.size X BX HX.out.size)
      have bd := dec_bounds D HBD.out.rng
      have dn := dec_none (D := D)
      clear BX
      go_wp2_with fail
      refine DC.out.mono ?_; rintro e V3 ⟨v3, rfl, C3⟩
      obtain ⟨DT, hDT⟩ : ∃ DT, decT D = DT := ⟨_, rfl⟩
      rw [hDT] at C3 bd dn ⊢
      obtain ⟨dw, dh, dl, dc, ds⟩ := DT
      dsimp only at C3 bd dn ⊢
      obtain ⟨A9, c9, L9, rfl, eL9, FD9⟩ := C3.read (by omega) (by omega)
      obtain ⟨V4, hV4⟩ : ∃ V4, V4 = V3.alloc (.cells #[.int .i64 dw, .int .i64 dh] 23) := ⟨_, rfl⟩
      have b4 : Below V3.heap.size V3 V4 := by rw [hV4]; exact (Below.refl _ _).alloc (Nat.le_refl _) _
      have k4 : Bk V4 V3.heap.size [.int .i64 dw, .int .i64 dh] 23 := by rw [hV4]; exact Bk.new _ _ _
      have BW4 := HX.out.trans ((C3.1.trans (b4.mono C3.1.size)).mono HX.out.size)
      have t0 := k4.c 0 _ rfl
      have t1 := k4.c 1 _ rfl
      have HB4 := Lib.hid BW4
      have HV4 := Lib.hid hV4
      have F4 := FD9.below b4 (Nat.le_refl _)
      by_cases cz : dc = 0
      case neg =>
        obtain ⟨rfl, rfl, rfl⟩ := dn cz
        have l0 : L9.length = 0 := by have := congrArg List.length eL9; rw [frms_len] at this; exact this
        have cz' : (dc == 0) = false := by simpa using cz
        clear DC C3 FD9 hDT hV4 b4 k4 BW4 F4 bd dn eL9
        go_upto_region 17 with fail
        rw [← HV4.out]
        clear HV4
        go_wp2_with fail
        go_ret
        exact ⟨by rfl, HB4.out⟩
      subst cz
      have EE := bd.2.2 rfl
      rw [← eL9] at EE
      have HEE := Lib.hid EE
      have EN := Lib.hid (t_Encode dw dh A9 c9 L9 V3.heap.size V4 F4 b4.size)
      clear DC C3 FD9 hDT hV4 b4 k4 BW4 F4 bd dn eL9 EE
      go_upto_region 17 with fail
      rw [← HV4.out]
      clear HV4
      go_wp2_with fail
      refine EN.out.mono ?_; rintro e V5 ⟨v5, rfl, o5, B5⟩
      rw [HEE.out] at o5 ⊢
      dsimp only at o5 ⊢
      obtain ⟨E5, c5, ev0⟩ := own_slc o5
      have ev := own_len o5 ev0
      clear ev0
      subst ev
      have cv1 := conv_sees (own_byteD o5 HBD.out.rng HBD.out.sz)
      have cv2 := conv_sees (HBD.out.below (HB4.out.trans (B5.mono HB4.out.size)) (Nat.le_refl _))
      dsimp only at cv1 cv2
      have FB := Lib.hid (HB4.out.trans (B5.mono HB4.out.size))
      clear EN o5 B5 HB4
      go_wp2_with fail
      go_ret
      exact ⟨by rfl, FB.out⟩
end
end Go.Proofs.YtmaofighbpnbiaaGreatDoor
