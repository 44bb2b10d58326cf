/- A tape is written, read and played: what the law asks of every program. -/
import Derived.Test.YtmaofighbpnbiaaGreatDoorYTqF
import Derived.Test.YtmaofighbpnbiaaGreatDoorYTqJ
import Derived.Lib.SlBytesConst
namespace Go.Proofs.YtmaofighbpnbiaaGreatDoor
open Go Go.RowKit Go.Sort
set_option linter.unusedVariables false
set_option linter.unusedSimpArgs false
section
theorem CpyR.read {W w' : World} {v : Value} {l : List Frm} (h : CpyR W w' v l) (hl : l.length ≤ 1000000) (tot : (l.flatMap (·.bs)).length ≤ 140737488355328) : ∃ (A : Option Addr) (c : Nat) (L : List FA), v = .slice A L.length c ∧ frms L = l ∧ FrsD w' w'.heap.size A c L := by
 rcases h.2 with ⟨rfl, rfl⟩ | ⟨g, L', hg, o, r, e, ok⟩
 ·exact ⟨none, 0, [], rfl, rfl, fun _ => rfl, Nat.le_refl _, by simp, Sees.nil _ _ _, fun x m => by cases m⟩
 ·obtain ⟨A, c, ev⟩ := own_slcF o
  have ev := own_len o ev
  subst ev
  have ll : L'.length = l.length := by rw [← e, frms_len]
  have FD := own_frsE o (by rw [cpF_len, ll]; exact hl) (cpF_ok r 0 (by rw [← frms_flat, e]; exact tot) L' 0 [] (by simp) (fun x m => ⟨(ok x m).1, by have := ok x m; omega, by have := ok x m; omega⟩))
  exact ⟨A, c, _, rfl, by rw [cpF_frms, shift_zero, e], FD⟩
theorem al_new : newC 3 1 alL 1 = 0 := by decide +kernel
theorem al_last : lastAt alL = 20 := by decide
theorem al_u15 : uptoL alL 15 = 1 := by decide +kernel
theorem al_u20 : uptoL alL 20 = 2 := by decide +kernel
theorem al_byt : ∀ f ∈ alL, Byt f.bs := by
 intro f m
 have : f = ⟨10, [97, 98]⟩ ∨ f = ⟨20, [13, 120]⟩ := by simpa [alL] using m
 rcases this with rfl | rfl <;> (intro b mb; simp at mb; rcases mb with rfl | rfl <;> decide)
theorem EncR.open {W w' : World} {w h : Int} {l : List Frm} {e : Ending} {D : List Int} {k : Int} (h' : EncR W w h l e w') (ee : encT w h l = (D, k)) (rng : Byt D) (ln : D.length ≤ 1000000000) : ∃ A c, e = .returned (.tuple #[.slice A D.length c, .int .i64 k]) ∧ ByteD w' w'.heap.size ⟨A, c, D⟩ ∧ Below W.heap.size W w' := by
 obtain ⟨v, e1, o, b⟩ := h'
 rw [ee] at e1 o
 dsimp only at e1 o
 obtain ⟨A, c, ev⟩ := own_slc o
 have ev := own_len o ev
 subst ev
 refine ⟨A, c, e1, ⟨fun z => ?_, ?_, by show D.length ≤ _; omega, Sees.of_own o, rng⟩, b⟩
 ·rcases o.2 with ⟨q, _⟩ | ⟨g, cap, cur, q, _⟩
  ·injection q with q1 q2 q3
  ·injection q with q1 q2 q3; have z : A = none := z; rw [z] at q1; cases q1
 ·rcases o.2 with ⟨q, y⟩ | ⟨g, cap, cur, q, _, _, y, _⟩
  ·show D.length ≤ c; omega
  ·injection q with q1 q2 q3; show D.length ≤ c; rw [q3]; exact y
def alA (a b : Nat) : List FA := [⟨10, ⟨some ⟨a, 0, none⟩, 2, [97, 98]⟩⟩, ⟨20, ⟨some ⟨b, 0, none⟩, 2, [13, 120]⟩⟩]
theorem bts_sees {w : World} {b B : Nat} {vs : List Value} {T : TypeId} {fl : Nat × Nat} (K : w.heap[b]? = some (.cells vs.toArray T fl)) (hB : b < B) : Sees w B (some ⟨b, 0, none⟩) vs := fun ne => ⟨_, rfl, hB, fun j u hj => by
 rw [Addr.add_lit, Nat.zero_add]
 simp [World.cell?, K, hj]⟩
theorem row_sees {w : World} {b B : Nat} {vs : List Value} {T : TypeId} (K : Bk w b vs T) (hB : b < B) : Sees w B (some ⟨b, 0, none⟩) vs := fun ne => ⟨_, rfl, hB, fun j u hj => by
 rw [Addr.add_lit, Nat.zero_add]
 exact K.c j u hj⟩
theorem al_frs {w : World} {a b d : Nat} {f1 f2 : Nat × Nat} (K1 : w.heap[a]? = some (.cells [Value.int .u8 97, .int .u8 98].toArray 5 f1)) (K2 : w.heap[b]? = some (.cells [Value.int .u8 13, .int .u8 120].toArray 5 f2)) (K3 : Bk w d [.int .i64 10, .slice (some ⟨a, 0, none⟩) 2 2, .int .i64 20, .slice (some ⟨b, 0, none⟩) 2 2] 47) : FrsD w w.heap.size (some ⟨d, 0, none⟩) 2 (alA a b) := by
 refine ⟨(fun z => by cases z), Nat.le_refl _, by show (2 : Nat) * 32 ≤ _; decide, row_sees K3 K3.lt, fun x m => ?_⟩
 have : x = ⟨10, ⟨some ⟨a, 0, none⟩, 2, [97, 98]⟩⟩ ∨ x = ⟨20, ⟨some ⟨b, 0, none⟩, 2, [13, 120]⟩⟩ := by simpa [alA] using m
 rcases this with rfl | rfl
 ·exact ⟨⟨(fun z => by cases z), Nat.le_refl _, (by show (2 : Nat) ≤ _; decide), bts_sees K1 (Array.getElem?_eq_some_iff.1 K1).1, (by show ∀ b ∈ [(97 : Int), 98], 0 ≤ b ∧ b < 256; decide)⟩, (by show (-9223372036854775808 : Int) ≤ 10; decide), (by show (10 : Int) ≤ _; decide)⟩
 ·exact ⟨⟨(fun z => by cases z), Nat.le_refl _, (by show (2 : Nat) ≤ _; decide), bts_sees K2 (Array.getElem?_eq_some_iff.1 K2).1, (by show ∀ b ∈ [(13 : Int), 120], 0 ≤ b ∧ b < 256; decide)⟩, (by show (-9223372036854775808 : Int) ≤ 20; decide), (by show (20 : Int) ≤ _; decide)⟩
theorem al_bb : Byt alB := enc_byt al_enc al_byt
theorem al_bl : alB.length ≤ 1000 := by decide +kernel
theorem row_texts {w : World} {B n c : Nat} {A : Option Addr} {l : List Cel} (h : NewRow B 79 5 (.slice A n c) l.length (celsV l) w) (l0 : 0 < l.length) : ∃ g, A = some ⟨g, 0, none⟩ ∧ B ≤ g ∧ g < w.heap.size ∧ ∀ w' : World, w'.heap[g]? = w.heap[g]? → ∀ k, k < l.length → w'.cell? ⟨g, k * 5, none⟩ = some (.string (l.getD k celD).text) := by
 rcases h.1 with ⟨z, _⟩ | ⟨o, ne⟩
 ·omega
 ·rcases o.2 with ⟨_, z⟩ | ⟨g, cap, cur, z, _, e, nc, _⟩
  ·omega
  ·have z2 := z
   injection z2 with z1 z3 z4
   subst z1
   obtain ⟨c', rfl⟩ : ∃ c', c = c' + 1 := ⟨c - 1, by omega⟩
   refine ⟨g, rfl, h.2 g (by simp [ob]), (Array.getElem?_eq_some_iff.1 e).1, fun w' hw k hk => ?_⟩
   have c1 : w.cell? ⟨g, k * 5, none⟩ = some (.string (l.getD k celD).text) := by
    have := o.cells (g := g) (by simp [Value.ownBlock]) (k * 5 + 0) (.string (l.getD k celD).text) (by rw [celsV_at l k hk 0 (by decide)]; rfl)
    rw [Addr.add_lit] at this
    simpa using this
   exact (World.cell?_of_block hw).trans c1
theorem seen_cs (t : Trm) : (seenT t).cells = t.cells := by unfold seenT; split <;> rfl
theorem al_sz : sizedB 3 1 = true := by decide
theorem al_tm : timedF 0 alL = true := by decide
theorem al_lb : ∀ f ∈ alL, f.bs.length ≤ 1048576 := by
 intro f m
 have : f = ⟨10, [97, 98]⟩ ∨ f = ⟨20, [13, 120]⟩ := by simpa [alL] using m
 rcases this with rfl | rfl <;> (show (2 : Nat) ≤ _; decide)
set_option maxHeartbeats 16000000 in
set_option maxRecDepth 100000 in
theorem law_alive (W : World) (E : EnvV W) : Calls Tryz.prog 18 #[] W fun e w' => e = .returned (.bool true) ∧ Below W.heap.size W w' := by
 have CV := fun (w : World) (C : Array Value) (n c : Nat) => Lib.run_convert_bytes_const (P := Tryz.prog) w 27 5 C n c Tryz.underlying27 Tryz.underlying5
 obtain ⟨Q1, h1⟩ : ∃ Q, Q = W.alloc (.cells #[.int .i64 3, .int .i64 1] 23) := ⟨_, rfl⟩
 obtain ⟨Q2, h2⟩ : ∃ Q, Q = Q1.alloc (.cells #[.int .u8 97, .int .u8 98] 5 (2, 3)) := ⟨_, rfl⟩
 obtain ⟨Q3, h3⟩ : ∃ Q, Q = Q2.alloc (.cells #[.int .u8 13, .int .u8 120] 5 (2, 3)) := ⟨_, rfl⟩
 obtain ⟨Q4, h4⟩ : ∃ Q, Q = Q3.alloc (.cells #[.int .i64 10, .slice (some ⟨Q1.heap.size, 0, none⟩) 2 2, .int .i64 20, .slice (some ⟨Q2.heap.size, 0, none⟩) 2 2] 47) := ⟨_, rfl⟩
 have b1 : Below W.heap.size W Q1 := by rw [h1]; exact (Below.refl _ _).alloc (Nat.le_refl _) _
 have b2 : Below Q1.heap.size Q1 Q2 := by rw [h2]; exact (Below.refl _ _).alloc (Nat.le_refl _) _
 have b3 : Below Q2.heap.size Q2 Q3 := by rw [h3]; exact (Below.refl _ _).alloc (Nat.le_refl _) _
 have b4 : Below Q3.heap.size Q3 Q4 := by rw [h4]; exact (Below.refl _ _).alloc (Nat.le_refl _) _
 have k1 : Bk Q1 W.heap.size [.int .i64 3, .int .i64 1] 23 := by rw [h1]; exact Bk.new _ _ _
 have k2 : Q2.heap[Q1.heap.size]? = some (.cells [Value.int .u8 97, .int .u8 98].toArray 5 (2, 3)) := by rw [h2]; exact World.alloc_heap_new _ _
 have k3 : Q3.heap[Q2.heap.size]? = some (.cells [Value.int .u8 13, .int .u8 120].toArray 5 (2, 3)) := by rw [h3]; exact World.alloc_heap_new _ _
 have l2 : Q1.heap.size < Q2.heap.size := (Array.getElem?_eq_some_iff.1 k2).1
 have l3 : Q2.heap.size < Q3.heap.size := (Array.getElem?_eq_some_iff.1 k3).1
 have cv1 : (convert 27 27 (.slice (some ⟨Q1.heap.size, 0, none⟩) 2 2)).run Tryz.prog (Q1.alloc (.cells #[.int .u8 97, .int .u8 98] 5)) = .ok (.slice (some ⟨Q1.heap.size, 0, none⟩) 2 2) Q2 := by rw [h2]; exact CV Q1 _ 2 2
 have cv2 : (convert 27 27 (.slice (some ⟨Q2.heap.size, 0, none⟩) 2 2)).run Tryz.prog (Q2.alloc (.cells #[.int .u8 13, .int .u8 120] 5)) = .ok (.slice (some ⟨Q2.heap.size, 0, none⟩) 2 2) Q3 := by rw [h3]; exact CV Q2 _ 2 2
 have k4 : Bk Q4 Q3.heap.size [.int .i64 10, .slice (some ⟨Q1.heap.size, 0, none⟩) 2 2, .int .i64 20, .slice (some ⟨Q2.heap.size, 0, none⟩) 2 2] 47 := by rw [h4]; exact Bk.new _ _ _
 have FD := al_frs ((b4.block _ (Nat.lt_trans l2 l3)).trans ((b3.block _ l2).trans k2)) ((b4.block _ l3).trans k3) k4
 have S4 := ((k1.of_eq (b2.block _ k1.lt)).of_eq (b3.block _ (Nat.lt_of_lt_of_le k1.lt b2.size))).of_eq (b4.block _ (Nat.lt_of_lt_of_le (Nat.lt_of_lt_of_le k1.lt b2.size) b3.size))
 have BW : Below W.heap.size W Q4 := ((b1.trans (b2.mono b1.size)).trans (b3.mono (Nat.le_trans b1.size b2.size))).trans (b4.mono (Nat.le_trans (Nat.le_trans b1.size b2.size) b3.size))
 have fe : frms (alA Q1.heap.size Q2.heap.size) = alL := rfl
 have EN := t_Encode 3 1 (some ⟨Q3.heap.size, 0, none⟩) 2 (alA Q1.heap.size Q2.heap.size) Q4.heap.size Q4 FD (Nat.le_refl _)
 rw [fe] at EN
 have EN := Lib.hid EN
 have s0 := S4.c 0 _ rfl
 have s1 := S4.c 1 _ rfl
 have HS4 := Lib.hid S4
 have HFD := Lib.hid FD
 have HBW := Lib.hid BW
 have H1 := Lib.hid h1
 have H2 := Lib.hid h2
 have H3 := Lib.hid h3
 have H4 := Lib.hid h4
 have HE := Lib.hid E
 clear h1 h2 h3 h4 b1 b2 b3 b4 k1 k2 k3 k4 FD S4 BW fe E l2 l3 CV
 go_enter Tryz.func18, Tryz.ntmps18
 go_upto_region 2 with fail
 rw [← H1.out]
 go_upto_region 3 with fail
 rw [← H4.out]
 obtain ⟨D, hD⟩ : ∃ D, D = alB := ⟨_, rfl⟩
 have AE := Lib.hid (show encT 3 1 alL = (D, 0) by rw [hD]; exact al_enc)
 have AD := Lib.hid (show decT D = ⟨3, 1, alL, 0, 0⟩ by rw [hD]; exact al_dec)
 have AB := Lib.hid (show Byt D by rw [hD]; exact al_bb)
 have AL := Lib.hid (show D.length ≤ 1000 by rw [hD]; exact al_bl)
 clear hD H1 H2 H3 H4 cv1 cv2
 generalize Q3.heap.size = g3 at *
 generalize Q2.heap.size = g2 at *
 generalize Q1.heap.size = g1 at *
 go_wp2_with fail
 refine EN.out.mono ?_; intro e w5 hR
 obtain ⟨A5, c5, rfl, BD5, B5⟩ := hR.open AE.out AB.out (by have := AL.out; omega)
 have DC := Lib.hid (t_Decode A5 c5 D w5.heap.size w5 BD5 (Nat.le_refl _))
 have HB5 := Lib.hid B5
 clear EN hR BD5 B5 s0 s1
 go_wp2_with fail
 refine DC.out.mono ?_; rintro e w6 ⟨v6, e6, C6⟩
 rw [AD.out] at e6 C6
 subst e6
 obtain ⟨A6, c6, L6, rfl, eL, FD6⟩ := C6.read (by decide) (by decide)
 have BW6 := HBW.out.trans ((HB5.out.mono HBW.out.size).trans (C6.1.mono (Nat.le_trans HBW.out.size HB5.out.size)))
 obtain ⟨w7, h7⟩ : ∃ Q, Q = w6.alloc (.cells #[.int .i64 3, .int .i64 1] 23) := ⟨_, rfl⟩
 have b7 : Below w6.heap.size w6 w7 := by rw [h7]; exact (Below.refl _ _).alloc (Nat.le_refl _) _
 have k7 : Bk w7 w6.heap.size [.int .i64 3, .int .i64 1] 23 := by rw [h7]; exact Bk.new _ _ _
 have S7 := ((HS4.out.of_eq (HB5.out.block _ HS4.out.lt)).of_eq (C6.1.block _ (Nat.lt_of_lt_of_le HS4.out.lt HB5.out.size))).of_eq (b7.block _ (Nat.lt_of_lt_of_le (Nat.lt_of_lt_of_le HS4.out.lt HB5.out.size) C6.1.size))
 have B47 : Below Q4.heap.size Q4 w7 := (HB5.out.trans (C6.1.mono HB5.out.size)).trans (b7.mono (Nat.le_trans HB5.out.size C6.1.size))
 have BW7 := HBW.out.trans (B47.mono HBW.out.size)
 have E7 : EnvV w7 := HE.out.mv (Mv.below (F := []) BW7) (by simp)
 have fe : frms (alA g1 g2) = alL := rfl
 have NW := t_PNew 3 1 (some ⟨g3, 0, none⟩) 2 (alA g1 g2) 1 Q4.heap.size w7 E7 (HFD.out.below B47 (Nat.le_refl _)) B47.size (by show (4 : Nat) ≤ _; decide) (by decide)
 rw [fe] at NW
 have NW := Lib.hid NW
 have F7 := FD6.below b7 (Nat.le_refl _)
 have HF7 := Lib.hid (F7.more b7.size)
 have HK7 := Lib.hid k7
 have HS7 := Lib.hid S7
 have HB7 := Lib.hid BW7
 have H7 := Lib.hid h7
 have HL6 := Lib.hid eL
 have s0 := S7.c 0 _ rfl
 have s1 := S7.c 1 _ rfl
 have ln : L6.length = 2 := by have := congrArg List.length eL; rw [frms_len] at this; exact this
 rw [ln]
 have HLN := Lib.hid ln
 clear DC C6 FD6 BW6 h7 b7 k7 S7 B47 BW7 E7 fe F7 eL HS4 HFD HBW ln
 go_upto_region 5 with fail
 rw [← H7.out]
 clear H7
 go_wp2_with fail
 refine NW.out.mono ?_; rintro e w8 ⟨v8, rfl, B8, _, hY⟩
 obtain ⟨W3, pb, ev, rfl, P8, _⟩ := hY al_new
 rw [al_new]
 have HP8 := Lib.hid P8
 have K8 := HK7.out.of_eq (B8.block _ HK7.out.lt)
 have S8 := HS7.out.of_eq (B8.block _ HS7.out.lt)
 have HB8 := Lib.hid (HB7.out.trans (B8.mono HB7.out.size))
 have F8 := HF7.out.below B8 (Nat.le_refl _)
 obtain ⟨ad, rfl, lb, z1, z2⟩ := F8.at 1 (by rw [HLN.out]; decide)
 have at1 : (L6[1]'(by rw [HLN.out]; decide)).at_ = 20 := by
  have e := HL6.out
  have g := frms_get L6 1 (by rw [HLN.out]; decide)
  have : (frms L6)[1]'(by rw [frms_len, HLN.out]; decide) = ⟨20, [13, 120]⟩ := by simp only [e]; rfl
  rw [this] at g
  exact (congrArg Frm.at_ g).symm
 rw [at1, show (1 : Nat) * 2 = 2 from rfl] at z1
 have z3 : w8.cell? ⟨ad.block, ad.off + 2, none⟩ = some (.int .i64 20) := by rw [add_lit _ 2 (by decide)]; exact z1
 have s0 := S8.c 0 _ rfl
 have s1 := S8.c 1 _ rfl
 have t0 := K8.c 0 _ rfl
 have t1 := K8.c 1 _ rfl
 have LEN := t_PLen P8
 rw [al_last] at LEN
 have LEN := Lib.hid LEN
 clear NW B8 hY P8 F8 z2 lb at1 K8 S8 HK7 HS7 HF7
 go_wp2_with fail
 refine LEN.out.mono ?_; rintro e w9 ⟨rfl, B9⟩
 have P9 := HP8.out.below B9
 have A1 := t_PAt P9 al_sz al_tm al_byt al_lb (by decide) (by decide) 15 (by decide) (by decide)
 rw [al_u15] at A1
 obtain ⟨ta, hta⟩ : ∃ ta, ta = playT 3 1 (alL.take 1) := ⟨_, rfl⟩
 have X1 := Lib.hid (show (ta.cells.getD 0 celD).text = ⟨#[97]⟩ ∧ ta.cells.length = 3 by rw [hta]; exact al_one)
 rw [← hta] at A1
 have A1 := Lib.hid A1
 have HP9 := Lib.hid P9
 have HB9 := Lib.hid (HB8.out.trans (B9.mono HB8.out.size))
 clear LEN B9 P9 HP8 HB8 s0 s1 t0 t1 z1 z3 hta
 go_wp2_with fail
 refine A1.out.mono ?_; rintro e w10 ⟨Aa, ca, rfl, Na, Ba⟩
 rw [X1.out.2] at Na
 obtain ⟨ga, rfl, gl, gu, gc⟩ := row_texts (n := 3) (by rw [← X1.out.2] at Na; exact (by rw [X1.out.2] at Na ⊢; exact Na)) (by rw [X1.out.2]; decide)
 have sva : scrV (seenT ta) (some ⟨ga, 0, none⟩) ca = .agg #[.int .i64 (seenT ta).w, .int .i64 (seenT ta).h, .slice (some ⟨ga, 0, none⟩) 3 ca, .int .i64 (seenT ta).x, .int .i64 (seenT ta).y, .bool (seenT ta).shown] := by
  unfold scrV
  rw [seen_cs, X1.out.2]
 rw [sva]
 generalize seenT ta = sa at *
 obtain ⟨V11, h11⟩ : ∃ V, V = w10.alloc (.cells #[.int .i64 sa.w, .int .i64 sa.h, .slice (some ⟨ga, 0, none⟩) 3 ca, .int .i64 sa.x, .int .i64 sa.y, .bool sa.shown] 51) := ⟨_, rfl⟩
 have b11 : Below w10.heap.size w10 V11 := by rw [h11]; exact (Below.refl _ _).alloc (Nat.le_refl _) _
 have k11 : Bk V11 w10.heap.size [.int .i64 sa.w, .int .i64 sa.h, .slice (some ⟨ga, 0, none⟩) 3 ca, .int .i64 sa.x, .int .i64 sa.y, .bool sa.shown] 51 := by rw [h11]; exact Bk.new _ _ _
 have P11 := (HP9.out.below Ba).below b11
 have A2 := t_PAt P11 al_sz al_tm al_byt al_lb (by decide) (by decide) 20 (by decide) (by decide)
 rw [al_u20] at A2
 obtain ⟨tb, htb⟩ : ∃ tb, tb = playT 3 1 (alL.take 2) := ⟨_, rfl⟩
 have X2 := Lib.hid (show (tb.cells.getD 0 celD).text = ⟨#[120]⟩ ∧ (tb.cells.getD 1 celD).text = ⟨#[98]⟩ ∧ tb.cells.length = 3 by rw [htb]; exact al_two)
 rw [← htb] at A2
 have A2 := Lib.hid A2
 have HB11 := Lib.hid ((HB9.out.trans (Ba.mono HB9.out.size)).trans (b11.mono (Nat.le_trans HB9.out.size Ba.size)))
 have HK11 := Lib.hid k11
 have GC := Lib.hid (fun (w' : World) (e : w'.heap[ga]? = w10.heap[ga]?) => gc w' e 0 (by rw [X1.out.2]; decide))
 have GK := Lib.hid (fun (w' : World) (b : Below V11.heap.size V11 w') => (b.block ga (Nat.lt_of_lt_of_le gu b11.size)).trans (b11.block ga gu))
 have H11 := Lib.hid h11
 clear A1 Na Ba gc sva h11 b11 k11 P11 HP9 HB9 htb gl gu
 go_upto_region 9 with fail
 rw [← H11.out]
 clear H11
 go_wp2_with fail
 refine A2.out.mono ?_; rintro e w12 ⟨Ab, cb, rfl, Nb, Bb⟩
 rw [X2.out.2.2] at Nb
 obtain ⟨gb, rfl, gl, gu, gc⟩ := row_texts (n := 3) (by rw [← X2.out.2.2] at Nb; exact (by rw [X2.out.2.2] at Nb ⊢; exact Nb)) (by rw [X2.out.2.2]; decide)
 have svb : scrV (seenT tb) (some ⟨gb, 0, none⟩) cb = .agg #[.int .i64 (seenT tb).w, .int .i64 (seenT tb).h, .slice (some ⟨gb, 0, none⟩) 3 cb, .int .i64 (seenT tb).x, .int .i64 (seenT tb).y, .bool (seenT tb).shown] := by
  unfold scrV
  rw [seen_cs, X2.out.2.2]
 rw [svb]
 generalize seenT tb = sb at *
 obtain ⟨V13, h13⟩ : ∃ V, V = w12.alloc (.cells #[.int .i64 sb.w, .int .i64 sb.h, .slice (some ⟨gb, 0, none⟩) 3 cb, .int .i64 sb.x, .int .i64 sb.y, .bool sb.shown] 51) := ⟨_, rfl⟩
 have b13 : Below w12.heap.size w12 V13 := by rw [h13]; exact (Below.refl _ _).alloc (Nat.le_refl _) _
 have k13 : Bk V13 w12.heap.size [.int .i64 sb.w, .int .i64 sb.h, .slice (some ⟨gb, 0, none⟩) 3 cb, .int .i64 sb.x, .int .i64 sb.y, .bool sb.shown] 51 := by rw [h13]; exact Bk.new _ _ _
 have k11 := (HK11.out.of_eq (Bb.block _ HK11.out.lt)).of_eq (b13.block _ (Nat.lt_of_lt_of_le HK11.out.lt Bb.size))
 have x2 := k11.c 2 _ rfl
 have y2 := k13.c 2 _ rfl
 have ca0 := GC.out V13 (GK.out V13 (Bb.trans (b13.mono Bb.size)))
 have cb0 := gc V13 (b13.block gb gu) 0 (by rw [X2.out.2.2]; decide)
 have cb1 := gc V13 (b13.block gb gu) 1 (by rw [X2.out.2.2]; decide)
 rw [X1.out.1, Nat.zero_mul] at ca0
 rw [X2.out.1, Nat.zero_mul] at cb0
 rw [X2.out.2.1, Nat.one_mul] at cb1
 have FIN := Lib.hid ((HB11.out.trans (Bb.mono HB11.out.size)).trans (b13.mono (Nat.le_trans HB11.out.size Bb.size)))
 have H13 := Lib.hid h13
 clear A2 Nb Bb gc svb h13 b13 k13 k11 gl gu HB11 HK11 GC GK
 go_upto_region 10 with fail
 rw [← H13.out]
 clear H13
 go_wp2_with fail
 go_ret
 exact ⟨by rfl, FIN.out⟩
end
end Go.Proofs.YtmaofighbpnbiaaGreatDoor
