/- Frames are copied: copied, walked. -/
import Derived.Test.YtmaofighbpnbiaaGreatDoorYTqB
import Derived.Test.YtmaofighbpnbiaaGreatDoorYTpW
import Derived.Test.YtmaofighbpnbiaaGreatDoorYTqC
namespace Go.Proofs.YtmaofighbpnbiaaGreatDoor
open Go Go.RowKit Go.Sort
set_option linter.unusedVariables false
set_option linter.unusedSimpArgs false
section
def KeepN (T0 : TypeId) (W W' : World) : Prop := ∀ (g : Nat) (cur : Array Value) (T : TypeId) (fl : Nat × Nat), W.heap[g]? = some (.cells cur T fl) → T ≠ T0 → W'.heap[g]? = W.heap[g]?
theorem KeepN.refl (T0 : TypeId) (W : World) : KeepN T0 W W := fun _ _ _ _ _ _ => rfl
theorem KeepN.trans {T0 : TypeId} {a b c : World} (h : KeepN T0 a b) (k : KeepN T0 b c) : KeepN T0 a c := fun g cur T fl e n => (k g cur T fl ((h g cur T fl e n).trans e) n).trans (h g cur T fl e n)
theorem KeepN.below {T0 : TypeId} {a b : World} (h : Below a.heap.size a b) : KeepN T0 a b := fun g cur T fl e n => h.block g (Array.getElem?_eq_some_iff.1 e).1
theorem keepN_grown {T0 : TypeId} {w w3 : World} {LO sz : Nat} {v : Value} {n : Nat} {xs : List Value} (hb : w.ownsRow LO T0 sz v n xs) (hg : w.grownBy w3 v.ownBlock) : KeepN T0 w w3 := fun g cur T fl e ne => by
 refine hg.block g (Array.getElem?_eq_some_iff.1 e).1 (fun z => ?_)
 rcases hb.2 with ⟨rfl, _⟩ | ⟨g', cap, cu, rfl, _, h3, _⟩
 ·simp [Value.ownBlock] at z
 ·simp [Value.ownBlock] at z
  subst z
  rw [e] at h3
  cases h3
  exact ne rfl
theorem own_keepN {T0 : TypeId} {w w' : World} {LO sz : Nat} {v : Value} {n : Nat} {xs : List Value} (h : w.ownsRow LO T0 sz v n xs) (k : ∀ (g : Nat) (cu : Array Value), w.heap[g]? = some (Obj.cells cu T0 (0, 0)) → w'.heap[g]? = w.heap[g]?) : w'.ownsRow LO T0 sz v n xs := by
 refine ⟨h.1, ?_⟩
 rcases h.2 with hn | ⟨g, cap, cur, rfl, hb, hg, rest⟩
 ·exact .inl hn
 ·exact .inr ⟨g, cap, cur, rfl, hb, (k g cur hg).trans hg, rest⟩
theorem own_callF {T0 : TypeId} {w w' : World} {LO sz : Nat} {v : Value} {n : Nat} {xs : List Value} (h : w.ownsRow LO T0 sz v n xs) (hb : Below w.heap.size w w') : w'.ownsRow LO T0 sz v n xs := own_keepN h (fun g cu e => hb.block g (Array.getElem?_eq_some_iff.1 e).1)
theorem infoFr : (Tryz.prog.info? 47).map (fun i => (i.zero.map (·.cells), i.size, i.bytes)) = some (some #[.int .i64 0, .slice none 0 0], 2, 32) := by kernel_rfl
theorem infoF : ∃ i z, Tryz.prog.info? 47 = some i ∧ i.zero = some z ∧ i.size = 2 ∧ i.bytes = 32 ∧ z.cells.size = 2 := by
 have h := infoFr
 cases e : Tryz.prog.info? 47 with
 | none => rw [e] at h; cases h
 | some i =>
  rw [e] at h
  simp only [Option.map_some, Option.some.injEq, Prod.mk.injEq] at h
  obtain ⟨h1, h2, h3⟩ := h
  cases e2 : i.zero with
  | none => rw [e2] at h1; cases h1
  | some z =>
   rw [e2] at h1
   simp only [Option.map_some, Option.some.injEq] at h1
   exact ⟨i, z, rfl, e2, h2, h3, by rw [h1]; rfl⟩
theorem frV_len (L : List FA) : (L.flatMap frV).length = L.length * 2 := by
 induction L with
 | nil => rfl
 | cons x l ih => rw [List.flatMap_cons, List.length_append, ih, List.length_cons]; show 2 + _ = _; omega
theorem own_slcF {w : World} {base n : Nat} {T : TypeId} {v : Value} {xs : List Value} (h : w.ownsRow base T 2 v n xs) : ∃ A c, v = .slice A n c := by
 rcases h.2 with ⟨rfl, rfl⟩ | ⟨g, cap, cur, rfl, _⟩
 ·exact ⟨_, _, rfl⟩
 ·exact ⟨_, _, rfl⟩
structure CopAt (LO : Nat) (W : World) (g N : Nat) (L0 : List FA) (base : Int) (M : List FA) (v : Value) (w : World) : Prop where
 own : w.ownsRow LO 47 2 v (L0 ++ cpF g base 0 M).length ((L0 ++ cpF g base 0 M).flatMap frV)
 row : BRow w g N (flatB M)
 bel : Below LO W w
 kp : KeepN 47 W w
 gn : W.heap.size ≤ g
section
variable {LO : Nat} {W w w' : World} {g N : Nat} {L0 M : List FA} {base : Int} {v : Value}
theorem CopAt.below (h : CopAt LO W g N L0 base M v w) (hb : Below w.heap.size w w') (hLO : LO ≤ W.heap.size) : CopAt LO W g N L0 base M v w' :=
 ⟨own_callF h.own hb, h.row.keep (hb.block g h.row.lt), h.bel.trans (hb.mono (Nat.le_trans hLO h.bel.size)), h.kp.trans (KeepN.below hb), h.gn⟩
theorem CopAt.bytes (h : CopAt LO W g N L0 base M v w) (hLO : LO ≤ W.heap.size) {bs : List Int} (hr : BRow w' g N (flatB M ++ bs)) (m : Mv [g] w w') :
  w'.ownsRow LO 47 2 v (L0 ++ cpF g base 0 M).length ((L0 ++ cpF g base 0 M).flatMap frV) ∧ Below LO W w' ∧ KeepN 47 W w' := by
 have far : ∀ k, k < w.heap.size → k ≠ g → w'.heap[k]? = w.heap[k]? := fun k lt ne => m.blk k lt (by simpa using ne)
 refine ⟨own_keepN h.own (fun k cu e => far k (Array.getElem?_eq_some_iff.1 e).1 (fun z => ?_)), ?_, fun k cur T fl e ne => ?_⟩
 ·obtain ⟨_, cu2, e2, _⟩ := h.row
  rw [z, e2] at e
  cases e
 ·exact h.bel.trans ⟨m.os, m.tape, m.output, m.size, fun k lt => far k (by have := h.bel.size; omega) (by have := h.gn; omega)⟩
 ·have lt := (Array.getElem?_eq_some_iff.1 e).1
  exact (far k (Nat.lt_of_lt_of_le lt h.bel.size) (by have := h.gn; omega)).trans (h.kp k cur T fl e ne)
end
theorem flatB_le {L : List FA} (hb : ∀ x ∈ L, x.b.bs.length ≤ 1048576) : (flatB L).length ≤ L.length * 1048576 := by
 induction L with
 | nil => simp [flatB]
 | cons x l ih =>
  have h1 := hb x (List.mem_cons_self)
  have h2 := ih (fun y m => hb y (List.mem_cons_of_mem _ m))
  unfold flatB at h2 ⊢
  rw [List.flatMap_cons, List.length_append, List.length_cons]
  omega
theorem take_succ_get {α : Type} (L : List α) (k : Nat) (h : k < L.length) : L.take (k + 1) = L.take k ++ [L[k]] := by
 rw [List.take_add_one, List.getElem?_eq_getElem h]; rfl
theorem flatB_take (L : List FA) (k : Nat) (h : k < L.length) : flatB (L.take (k + 1)) = flatB (L.take k) ++ (L[k]).b.bs := by
 rw [take_succ_get L k h, flatB_app]; simp [flatB]
theorem make_bytes (W : World) (n : Nat) (hn : n ≤ 100000000000) : ∃ V, (Instr.makeSlice 27 (.int .i64 0) (.int .i64 (n : Int))).run Tryz.prog W = .ok (.slice (some ⟨W.heap.size, 0, none⟩) 0 n) V ∧ BRow V W.heap.size n [] ∧ Below W.heap.size W V := by
 obtain ⟨i, hi, hz0, hz1, hz2⟩ := info_parts infoB
 have r := run_make (P := Tryz.prog) W 27 5 i (.int .u8 0) Tryz.underlying27 hi hz0 .i64 .i64 0 (n : Int) (by omega) (by omega) (by rw [hz2]; omega) (by omega)
 rw [hz1] at r
 simp only [Int.toNat_natCast, Int.toNat_zero] at r
 exact ⟨_, r, BRow.new W n _ (by rw [size_madeCells]; simp [hz1, Value.cells]), (Below.refl _ W).alloc (Nat.le_refl _) _⟩
theorem flat_one2 (x : FA) : ([x] : List FA).flatMap frV = frV x := by simp
theorem CopAt.next {LO : Nat} {W w w1 w3 : World} {g N : Nat} {L0 M : List FA} {base : Int} {v v' : Value} {x : FA} (h : CopAt LO W g N L0 base M v w) (hLO : LO ≤ W.heap.size) (hr : BRow w1 g N (flatB M ++ x.b.bs)) (m : Mv [g] w w1) {u : World} (hu : Below w1.heap.size w1 u)
  (hg : u.grownBy w3 v.ownBlock) (ho : w3.ownsRow LO 47 2 v' ((L0 ++ cpF g base 0 M).length + 1) ((L0 ++ cpF g base 0 M).flatMap frV ++ frV ⟨x.at_ + base, ⟨some ⟨g, if x.b.bs.length = 0 then 0 else (flatB M).length, none⟩, x.b.bs.length, x.b.bs⟩⟩)) :
  CopAt LO W g N L0 base (M ++ [x]) v' w3 := by
 obtain ⟨a1, a2, a3⟩ := h.bytes hLO hr m
 have b1 := own_callF a1 hu
 have b2 := a2.trans (hu.mono (Nat.le_trans hLO (Nat.le_trans h.bel.size m.size)))
 have b3 := a3.trans (KeepN.below (T0 := 47) hu)
 have r2 := hr.keep (hu.block g hr.lt)
 have r3 : BRow w3 g N (flatB M ++ x.b.bs) := by
  have r4 := r2
  obtain ⟨_, cu, e, _⟩ := r4
  exact r2.keep (keepN_grown b1 hg g cu _ _ e (by decide))
 have ce : cpF g base 0 (M ++ [x]) = cpF g base 0 M ++ [⟨x.at_ + base, ⟨some ⟨g, if x.b.bs.length = 0 then 0 else (flatB M).length, none⟩, x.b.bs.length, x.b.bs⟩⟩] := by
  rw [cpF_app, Nat.zero_add]; rfl
 refine ⟨?_, by rw [flatB_app]; simpa [flatB] using r3, b2.grown hg (Nat.le_trans hLO b2.size) (fun k hk => (b1.lt k hk).1), b3.trans (keepN_grown b1 hg), h.gn⟩
 rw [ce, ← List.append_assoc, List.length_append, List.flatMap_append, flat_one2]
 exact ho
theorem own_len {T0 : TypeId} {w : World} {LO sz : Nat} {v : Value} {n : Nat} {xs : List Value} {A : Option Addr} {m c : Nat} (h : w.ownsRow LO T0 sz v n xs) (e : v = .slice A m c) : v = .slice A n c := by
 rcases h.2 with ⟨rfl, rfl⟩ | ⟨g, cap, cur, rfl, _⟩
 ·cases e; rfl
 ·cases e; rfl
theorem room_of {L : List FA} {j : Nat} (h : j < L.length) : (flatB (L.take j)).length + (L[j]).b.bs.length ≤ (flatB L).length := by
 have e := congrArg List.length (flatB_take L j h)
 rw [List.length_append] at e
 have f := congrArg (fun l => (flatB l).length) (List.take_append_drop (j + 1) L)
 simp only [flatB_app, List.length_append] at f
 omega
def CopR (LO : Nat) (W : World) (L0 : List FA) (L : List FA) (base : Int) (e : Ending) (w' : World) : Prop := ∃ v' g, e = .returned v' ∧ CopAt LO W g (flatB L).length L0 base L v' w'
set_option maxHeartbeats 16000000 in
set_option maxRecDepth 100000 in
theorem t_copied (LO : Nat) (v : Value) (L0 : List FA) (A : Option Addr) (c : Nat) (L : List FA) (B : Nat) (base : Int) (W : World) (hv : W.ownsRow LO 47 2 v L0.length (L0.flatMap frV)) (hLO : LO ≤ W.heap.size) (D : FrsD W B A c L) (hB : B ≤ LO)
  (hl : L.length ≤ 16384) (hb : ∀ x ∈ L, x.b.bs.length ≤ 1048576) (ha : ∀ x ∈ L, 0 ≤ x.at_ ∧ x.at_ ≤ 1099511627776) (h0 : 0 ≤ base ∧ base ≤ 1099511627776) (ub : L0.length ≤ 1000000) :
  Calls Tryz.prog 53 #[v, .slice A L.length c, .int .i64 base] W (CopR LO W L0 L base) := by
 obtain ⟨i0, z0, hi0, hz0, hz1, hz2, hz3⟩ := infoF
 have CE := Lib.hid (D.cells (Nat.le_trans hB hLO))
 have HD := Lib.hid D
 have HL := Lib.hid hl
 have HBB := Lib.hid hb
 obtain ⟨n, hn⟩ : ∃ n, n = L.length := ⟨_, rfl⟩
 have HN := Lib.hid hn
 have n1 : n ≤ 16384 := by omega
 have FL := Lib.hid (fun k => flatB_le (L := L.take k) (fun x m => hb x (List.mem_of_mem_take m)))
 have FN := Lib.hid (flatB_le hb)
 have CF := Lib.hid (fun (wr : World) (h : Below LO W wr) => D.below h hB)
 have HA := Lib.hid ha
 have LOW := Lib.hid hLO
 have hBLO := Lib.hid hB
 rw [← hn]
 clear D hl hn hb
 go_enter Tryz.func53, Tryz.ntmps53
 go_wp2_with fail
 go_loopw [7, 16] (fun s7 s16 wr => ∃ (k z : Nat), k ≤ n ∧ s7 = .int .i64 (z : Int) ∧ s16 = .int .i64 (k : Int) ∧ Hid (z = (flatB (L.take k)).length) ∧ Hid (Below W.heap.size W wr)) (fun _ s16 _ => n - (intOf s16).toNat)
 case atStart => exact ⟨0, 0, Nat.zero_le _, rfl, rfl, Lib.hid rfl, Lib.hid (Below.refl _ _)⟩
 case round =>
  obtain ⟨k, z, hk, rfl, rfl, hz, hw⟩ := hrel
  by_cases lt : k < n
  ·have kl : k < L.length := by rw [← HN.out]; exact lt
   obtain ⟨ad, rfl, z1, z2⟩ := CE.out k wr kl hw.out
   have FZ := Lib.hid ((congrArg List.length (flatB_take L k kl)).trans (List.length_append))
   have BD := HBB.out _ (List.getElem_mem kl)
   have zb : z ≤ k * 1048576 := by rw [hz.out]; exact Nat.le_trans (FL.out k) (Nat.mul_le_mul_right _ (by rw [List.length_take]; omega))
   generalize hbb : (L[k]).b = bb at *
   obtain ⟨xA, xc, bs⟩ := bb
   dsimp only at z2 BD FZ
   generalize (L[k]).at_ = xt at *
   have q0 : (0 : Int) ≤ (k : Int) := by omega
   have q5 : (k : Int) < (n : Int) := by omega
   have tn : (k : Int).toNat = k := by omega
   have wk : IntKind.i64.wrap ((k : Int) + 1) = (k : Int) + 1 := IntWalk.i64_in _ (by omega)
   have wz : IntKind.i64.wrap ((z : Int) + (bs.length : Int)) = (z : Int) + (bs.length : Int) := IntWalk.i64_in _ (by omega)
   have NZ := Lib.hid (show z + bs.length = (flatB (L.take (k + 1))).length by rw [FZ.out, hz.out])
   have NW := Lib.hid (fun o => (hw.out.alloc hw.out.size o))
   clear CE hz hw FZ hbb
   go_wp2_with fail
   go_roundw
   case rel => exact ⟨k + 1, z + bs.length, by omega, by go_num, by go_num, NZ, Lib.hid (NW.out _)⟩
   case measure => simp [intOf]; omega
  ·have e : k = n := by omega
   subst e
   have q5 : ¬ (k : Int) < (k : Int) := by omega
   obtain ⟨V, hmk, hrow, hbv⟩ := make_bytes wr z (by have := FN.out; have h2 := HN.out; rw [hz.out, h2, List.take_length]; omega)
   have zN : Hid (z = (flatB L).length) := Lib.hid (by rw [hz.out, HN.out, List.take_length])
   have CA := Lib.hid (show CopAt LO W wr.heap.size z L0 base [] v V from by
    have bw := hw.out.trans (hbv.mono hw.out.size)
    exact ⟨by rw [cpF, List.append_nil]; exact own_callF hv bw, hrow, bw.mono hLO, KeepN.below bw, hw.out.size⟩)
   have gW := Lib.hid hw.out.size
   clear hrow hbv hz hw
   go_wp2_with fail
   generalize wr.heap.size = g at *
   clear hmk
   go_loopw [0, 10, 30] (fun s0 s10 s30 wr => ∃ (j za : Nat), j ≤ k ∧ s10 = .slice (some ⟨g, 0, none⟩) za z ∧ s30 = .int .i64 (j : Int) ∧ Hid (za = (flatB (L.take j)).length) ∧ (∃ A' c', s0 = .slice A' (L0 ++ cpF g base 0 (L.take j)).length c') ∧ Hid (CopAt LO W g z L0 base (L.take j) s0 wr)) (fun _ _ s30 _ => k - (intOf s30).toNat)
   case atStart =>
    obtain ⟨A', c', e⟩ := own_slcF CA.out.own
    exact ⟨0, 0, Nat.zero_le _, rfl, rfl, Lib.hid rfl, ⟨A', c', own_len CA.out.own e⟩, CA⟩
   case round =>
    obtain ⟨j, za, hj, rfl, rfl, hza, ⟨A', c', rfl⟩, he⟩ := hrel
    clear CA
    by_cases lt : j < k
    ·have kl : j < L.length := by rw [← HN.out]; exact lt
     have FD := CF.out wr he.out.bel
     obtain ⟨ad, rfl, lb, z1, z2⟩ := FD.at j kl
     have BD := Lib.hid (FD.ok _ (List.getElem_mem kl)).b
     have AT := HA.out _ (List.getElem_mem kl)
     have TS := Lib.hid (take_succ_get L j kl)
     have RM := Lib.hid (room_of kl)
     generalize hxx : L[j] = x at *
     obtain ⟨xt, xA, xc, bs⟩ := x
     dsimp only at z1 z2 AT
     have BD : Hid (ByteD wr B ⟨xA, xc, bs⟩) := BD
     have q0 : (0 : Int) ≤ (j : Int) := by omega
     have q5 : (j : Int) < (k : Int) := by omega
     have tn : (j : Int).toNat = j := by omega
     have wk : IntKind.i64.wrap ((j : Int) + 1) = (j : Int) + 1 := IntWalk.i64_in _ (by omega)
     have wa : IntKind.i64.wrap (xt + base) = xt + base := IntWalk.i64_in _ (by omega)
     have room : za + bs.length ≤ z := by have h1 := RM.out; have h2 := hza.out; have h3 := zN.out; dsimp only at h1; omega
     obtain ⟨Q4, hQ4⟩ : ∃ Q4, Q4 = wr.alloc (.cells #[.int .i64 xt, .slice xA bs.length xc] 47) := ⟨_, rfl⟩
     have hb4 : Below wr.heap.size wr Q4 := by rw [hQ4]; exact (Below.refl _ wr).alloc (Nat.le_refl _) _
     have K4 : Bk Q4 wr.heap.size [.int .i64 xt, .slice xA bs.length xc] 47 := by rw [hQ4]; exact Bk.new wr _ _
     have b0 := K4.c 0 _ rfl
     have b1 := K4.c 1 _ rfl
     have E4 := he.out.below hb4 LOW.out
     have BB : Below LO wr Q4 := hb4.mono (Nat.le_trans LOW.out he.out.bel.size)
     have BD4 := (BD.out.below BB hBLO.out)
     obtain ⟨X, RC, hrX, mX⟩ := append_byts (bs := bs) E4.row xA xc (fun e => by
      have h1 : xc = 0 := BD4.nil e
      have h2 : bs.length ≤ xc := BD4.cap
      exact List.eq_nil_of_length_eq_zero (by omega)) (BD4.sees.more (Nat.le_trans hBLO.out (Nat.le_trans LOW.out E4.bel.size))) (by rw [← hza.out]; exact room)
     rw [← hza.out] at RC
     have HE4 := Lib.hid E4
     have HX := Lib.hid hrX
     have HM := Lib.hid mX
     have KX : Bk X wr.heap.size [.int .i64 xt, .slice xA bs.length xc] 47 := K4.of_eq (mX.blk _ K4.lt (by have := he.out.row.lt; simp; omega))
     have x0 := KX.c 0 _ rfl
     have x1 := KX.c 1 _ rfl
     have HQ4 := Lib.hid hQ4
     have HZA := Lib.hid hza.out
     clear hxx FD hb4 K4 E4 BB BD4 hrX mX KX hQ4 hza he BD lb
     have NX : Hid (∀ (u w3 : World) (v' : Value), Below X.heap.size X u → w3.ownsRow LO 47 2 v' ((L0 ++ cpF g base 0 (L.take j)).length + 1) ((L0 ++ cpF g base 0 (L.take j)).flatMap frV ++ [.int .i64 (xt + base), .slice (some ⟨g, if bs.length = 0 then 0 else za, none⟩) bs.length bs.length]) → u.grownBy w3 (Value.slice A' (L0 ++ cpF g base 0 (L.take j)).length c').ownBlock → ∃ A4 c4 l4, Hid (l4 = (L0 ++ cpF g base 0 (L.take (j + 1))).length) ∧ v' = .slice A4 l4 c4 ∧ CopAt LO W g z L0 base (L.take (j + 1)) (.slice A4 l4 c4) w3) := Lib.hid (fun u w3 v' hu ho hg => by
      rw [HZA.out] at ho
      have N := HE4.out.next (x := ⟨xt, ⟨xA, xc, bs⟩⟩) LOW.out HX.out HM.out hu hg ho
      rw [← TS.out] at N
      obtain ⟨A4, c4, e⟩ := own_slcF N.own
      have e4 := own_len N.own e
      rw [e4] at N
      exact ⟨A4, c4, _, Lib.hid rfl, e4, N⟩)
     have lenb : (L0 ++ cpF g base 0 (L.take j)).length ≤ 1100000 := by rw [List.length_append, cpF_len, List.length_take]; omega
     generalize hlen : (L0 ++ cpF g base 0 (L.take j)).length = len at *
     go_upto_region 11 with fail
     rw [← HQ4.out]
     clear HQ4
     go_upto_region 13 with (at_builtin; refine wpList_append_go rfl (.tmp 36) (.tmp 38) 27 27 rfl _ _ _ _ rfl rfl RC ?_)
     obtain ⟨m, hm⟩ : ∃ m, m = bs.length := ⟨_, rfl⟩
     rw [← hm] at x1 RC room NX ⊢
     have HMM := Lib.hid hm
     clear hm z2 b1
     by_cases m0 : m = 0
     ·subst m0
      have zl2 : za ≤ z := by omega
      rw [Nat.add_zero]
      have XB : Below X.heap.size X X.drew := (Below.refl _ X).drew
      have OX := HE4.out.bytes LOW.out HX.out HM.out
      have OWD := own_callF OX.1 XB
      rw [hlen] at OWD
      have ow := Lib.hid (own_callF OWD ((Below.refl _ X.drew).alloc (Nat.le_refl _) (.cells #[.int .i64 (xt + base), .slice (some ⟨g, 0, none⟩) 0 0] 47)))
      have H1 : Hid (∀ u ∈ [Value.int .i64 (xt + base), .slice (some ⟨g, 0, none⟩) 0 0], u.oneCell' = true) := Lib.hid (by intro u hu; simp at hu; rcases hu with rfl | rfl <;> rfl)
      have H2 : Hid (len + 1 ≤ maxLen) := Lib.hid (by unfold maxLen; omega)
      have H3 : Hid ((len + 1) * 32 ≤ 140737488355328) := Lib.hid (by omega)
      have H4 : Hid (LO ≤ (X.drew.alloc (.cells #[.int .i64 (xt + base), .slice (some ⟨g, 0, none⟩) 0 0] 47)).heap.size) := Lib.hid (by have := OX.2.1.size; have := LOW.out; have := XB.size; simp; omega)
      have NW := Lib.hid (cells_new X.drew [.int .i64 (xt + base), .slice (some ⟨g, 0, none⟩) 0 0] 47)
      clear room RC XB OX OWD
      go_region_law (refine step_append_go _ rfl (.tmp 40) (.tmp 53) 24 rfl LO 47 i0 z0 2 32 Tryz.underlying24 hi0 hz0 hz1 hz2 hz3 (by decide) (.slice A' len c') len _ rfl ow.out ⟨X.drew.heap.size, 0, none⟩ 1 1 [.int .i64 (xt + base), .slice (some ⟨g, 0, none⟩) 0 0] rfl rfl NW.out H1.out H2.out H3.out H4.out ?_; intro v' w3 hown3 hg3 _)
      obtain ⟨A4, c4, l4, hl4, rfl, P4⟩ := NX.out _ _ _ ((Below.refl _ X).drew.alloc (Nat.le_refl _) _) (by rw [if_pos rfl]; exact hown3) hg3
      have P4 := Lib.hid P4
      have ZN := Lib.hid (show za = (flatB (L.take (j + 1))).length by rw [TS.out, flatB_app, List.length_append, ← HZA.out]; have q1 := HMM.out; have e : flatB [(⟨xt, ⟨xA, xc, bs⟩⟩ : FA)] = bs := (by simp [flatB]); rw [e]; omega)
      clear hown3 hg3 NX ow NW HE4 HX HM
      go_simp
      go_wp2_with fail
      go_roundw
      case rel => exact ⟨j + 1, za, by omega, rfl, by go_num, ZN, ⟨A4, c4, by rw [hl4.out]⟩, P4⟩
      case measure => simp [intOf]; omega
     ·obtain ⟨zb, hzb⟩ : ∃ zb, zb = za + m := ⟨_, rfl⟩
      have e1 : zb - za = m := by omega
      have e2 : ¬ zb = za := by omega
      have zl : za ≤ zb := by omega
      have zl2 : zb ≤ z := by omega
      rw [← hzb]
      have XB : Below X.heap.size X X.drew := (Below.refl _ X).drew
      have OX := HE4.out.bytes LOW.out HX.out HM.out
      have OWD := own_callF OX.1 XB
      rw [hlen] at OWD
      have ow := Lib.hid (own_callF OWD ((Below.refl _ X.drew).alloc (Nat.le_refl _) (.cells #[.int .i64 (xt + base), .slice (some ⟨g, za, none⟩) m m] 47)))
      have H1 : Hid (∀ u ∈ [Value.int .i64 (xt + base), .slice (some ⟨g, za, none⟩) m m], u.oneCell' = true) := Lib.hid (by intro u hu; simp at hu; rcases hu with rfl | rfl <;> rfl)
      have H2 : Hid (len + 1 ≤ maxLen) := Lib.hid (by unfold maxLen; omega)
      have H3 : Hid ((len + 1) * 32 ≤ 140737488355328) := Lib.hid (by omega)
      have H4 : Hid (LO ≤ (X.drew.alloc (.cells #[.int .i64 (xt + base), .slice (some ⟨g, za, none⟩) m m] 47)).heap.size) := Lib.hid (by have := OX.2.1.size; have := LOW.out; have := XB.size; simp; omega)
      have NW := Lib.hid (cells_new X.drew [.int .i64 (xt + base), .slice (some ⟨g, za, none⟩) m m] 47)
      have HZB := Lib.hid hzb
      clear hzb room RC XB OX OWD
      go_region_law (refine step_append_go _ rfl (.tmp 40) (.tmp 53) 24 rfl LO 47 i0 z0 2 32 Tryz.underlying24 hi0 hz0 hz1 hz2 hz3 (by decide) (.slice A' len c') len _ rfl ow.out ⟨X.drew.heap.size, 0, none⟩ 1 1 [.int .i64 (xt + base), .slice (some ⟨g, za, none⟩) m m] rfl rfl NW.out H1.out H2.out H3.out H4.out ?_; intro v' w3 hown3 hg3 _)
      obtain ⟨A4, c4, l4, hl4, rfl, P4⟩ := NX.out _ _ _ ((Below.refl _ X).drew.alloc (Nat.le_refl _) _) (by rw [if_neg m0]; exact hown3) hg3
      have P4 := Lib.hid P4
      have ZN := Lib.hid (show zb = (flatB (L.take (j + 1))).length by rw [TS.out, flatB_app, List.length_append, ← HZA.out]; have q1 := HMM.out; have q2 := HZB.out; simp [flatB]; omega)
      clear hown3 hg3 NX ow NW HE4 HX HM
      go_simp
      go_wp2_with fail
      go_roundw
      case rel => exact ⟨j + 1, zb, by omega, rfl, by go_num, ZN, ⟨A4, c4, by rw [hl4.out]⟩, P4⟩
      case measure => simp [intOf]; omega
    ·have e : j = k := by omega
     subst e
     have q5 : ¬ (j : Int) < (j : Int) := by omega
     have FIN : Hid (CopR LO W L0 L base (.returned (.slice A' (L0 ++ cpF g base 0 (L.take j)).length c')) wr) := Lib.hid (by
      have z1 := he.out
      rw [HN.out, List.take_length] at z1 ⊢
      exact ⟨_, g, rfl, by rw [← zN.out]; exact z1⟩)
     generalize (L0 ++ cpF g base 0 (L.take j)).length = ll at *
     clear he
     go_wp2_with fail
     go_ret
     exact FIN.out
end
end Go.Proofs.YtmaofighbpnbiaaGreatDoor
