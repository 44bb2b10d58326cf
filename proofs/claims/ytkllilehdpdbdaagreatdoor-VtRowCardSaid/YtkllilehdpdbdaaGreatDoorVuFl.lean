/- slices.DeleteFunc of runes, with any function that tells a bool. -/
import Derived.Test.YtkllilehdpdbdaaGreatDoorVuJ
import Derived.Test.YtkllilehdpdbdaaGreatDoorVuPl
namespace Go.Proofs.YtkllilehdpdbdaaGreatDoor
open Go Go.RowKit Go.Sort
set_option linter.unusedVariables false
set_option linter.unusedSimpArgs false
section
theorem setCells_bk {g : Nat} {T : TypeId} : ∀ (vs : List Value) (o : Nat) (w : World) (ys : List Value), Bk w g ys T → ∃ ys', Bk (w.setCells g o vs) g ys' T ∧ ys'.length = ys.length ∧ ys'.take o = ys.take o
  | [], o, w, ys, h => ⟨ys, h, rfl, rfl⟩
  | v :: r, o, w, ys, h => by
    obtain ⟨ys', a, b, c⟩ := setCells_bk r (o + 1) _ _ (h.set o v)
    refine ⟨ys', a, by rw [b, List.length_set], ?_⟩
    have := congrArg (List.take o) c
    rw [List.take_take, List.take_take, show min o (o + 1) = o by omega] at this
    rw [this, List.take_set_of_le (Nat.le_refl _)]
theorem setCells_old {w0 w : World} {g : Nat} (hb : Below w0.heap.size w0 w) (hg : w0.heap.size ≤ g) (vs : List Value) (o : Nat) : Below w0.heap.size w0 (w.setCells g o vs) := (setCells_mv (F := [g]) g (by simp) vs o w).old hb (by intro b m; rw [List.mem_singleton.1 m]; exact hg)
theorem run_clear_any (w : World) (t e ty : TypeId) (z : Value) (ht : Tryz.prog.underlying t = some (.slice e)) (hv : ∀ w, (zeroValue e).run Tryz.prog w = .ok z w) (hz : 0 < z.cells.size) (h1 : ∀ v ∈ z.cells, v.oneCell' = true) (b o n c : Nat) (hn : 0 < n)
    (hc : ∀ j, j < n * z.cells.size → (w.cell? ⟨b, o + j, none⟩).isSome = true) (hf : ∀ j, j < n * z.cells.size → w.frozen? ⟨b, o + j, none⟩ = false) :
    (Builtin.clear_ #[t] ty #[.slice (some ⟨b, o, none⟩) n c]).run Tryz.prog w = .ok (.tuple #[]) (w.setCells b o (Builtin.zeroCells z.cells n).toList) := by
  have len : (Builtin.zeroCells z.cells n).toList.length = n * z.cells.size := by simp [Builtin.zeroCells]
  have hst := run_storeCells_cells (P := Tryz.prog) b o (Builtin.zeroCells z.cells n).toList 0 w (by rw [len]; simpa using hc) (by rw [len]; simpa using hf) (by
    intro v hv'
    simp only [Builtin.zeroCells, Array.toList_map, List.mem_map] at hv'
    obtain ⟨i, _, rfl⟩ := hv'
    refine h1 _ ?_
    have lt : i % z.cells.size < z.cells.size := Nat.mod_lt _ hz
    rw [getElem!_pos z.cells _ lt]
    exact Array.getElem_mem lt)
  simp only [Nat.add_zero] at hst
  obtain ⟨m, rfl⟩ : ∃ m, n = m + 1 := ⟨n - 1, by omega⟩
  simp [Builtin.clear_, run_underlying ht, hv, hst]
/-- the rest of a row is cleared -/
theorem clear_rest {w0 w : World} {g : Nat} {ys : List Value} {T : TypeId} (K : Bk w g ys T) (hb : Below w0.heap.size w0 w) (hg : w0.heap.size ≤ g) (t ty : TypeId) (z : Value) (ht : Tryz.prog.underlying t = some (.slice T)) (hv : ∀ w, (zeroValue T).run Tryz.prog w = .ok z w) (sz : Nat) (hz : z.cells.size = sz) (s0 : 0 < sz) (h1 : ∀ v ∈ z.cells, v.oneCell' = true) (i n cap : Nat) (hi : i ≤ n) (hn : n * sz ≤ ys.length) (hc : n ≤ cap) :
    ∃ w' ys', (Builtin.clear_ #[t] ty #[sliced (some ⟨g, 0, none⟩) i n cap sz]).run Tryz.prog w = .ok (.tuple #[]) w' ∧ Bk w' g ys' T ∧ ys'.take (i * sz) = ys.take (i * sz) ∧ Below w0.heap.size w0 w' := by
  unfold sliced
  rcases Nat.lt_or_ge i n with lt | ge
  · rw [if_neg (by omega)]
    have e : (Option.map (fun x : Addr => x.add (i * sz)) (some (⟨g, 0, none⟩ : Addr))) = some ⟨g, i * sz, none⟩ := by
      show some (Addr.add ⟨g, 0, none⟩ (i * sz)) = _
      rw [add_at, Nat.zero_add]
    rw [e]
    have inb : ∀ j, j < (n - i) * z.cells.size → i * sz + j < ys.length := fun j hj => by
      rw [hz, Nat.sub_mul] at hj
      have := Nat.mul_le_mul_right sz hi
      omega
    have R := run_clear_any w t T ty z ht hv (by omega) h1 g (i * sz) (n - i) (cap - i) (by omega) (fun j hj => by
      rw [K.c (i * sz + j) _ (List.getElem?_eq_getElem (inb j hj))]; rfl) (fun j hj => K.f _)
    obtain ⟨ys', a, b, c⟩ := setCells_bk (Builtin.zeroCells z.cells (n - i)).toList (i * sz) w ys K
    exact ⟨_, ys', R, a, c, setCells_old hb hg _ _⟩
  · have e : n - i = 0 := by omega
    rw [e]
    refine ⟨w, ys, ?_, K, rfl, hb⟩
    split <;> (simp [Builtin.clear_, run_underlying ht]; try rfl)
theorem row_get {ys : List Value} {L : List Int} (e : ys.take L.length = rns L) (k : Nat) (hk : k < L.length) : ys[k]? = some (.int .i32 (L.getD k 0)) := by
  have := congrArg (fun l => l[k]?) e
  rw [List.getElem?_take, if_pos hk] at this
  rw [this]
  unfold rns
  rw [List.getElem?_map, List.getElem?_eq_getElem hk, List.getD_eq_getElem?_getD, List.getElem?_eq_getElem hk]
  rfl
theorem row_set {ys : List Value} {L : List Int} (e : ys.take L.length = rns L) (k : Nat) (x : Int) : (ys.set k (.int .i32 x)).take (L.set k x).length = rns (L.set k x) := by
  rw [List.length_set, List.take_set, e]
  unfold rns
  rw [List.map_set]
/-- what a rune's test must be -/
def TellsR (f : Nat) : Prop := ∀ (r : Int) (w : World), Calls Tryz.prog f #[.int .i32 r] w fun e w' => (∃ b, e = .returned (.bool b)) ∧ Below w.heap.size w w'
set_option maxHeartbeats 8000000 in
set_option maxRecDepth 100000 in
theorem d_IndexR (f : Nat) (hE : ∀ args w, (callFunc f args).run Tryz.prog w = .ok (.enter f args) w) (hF : TellsR f) (g cap : Nat) (L : List Int) (ys : List Value) (hl : L.length ≤ 1000000000) (w : World) (K : Bk w g ys 21) (e : ys.take L.length = rns L) :
    Calls Tryz.prog 81 #[.slice (some ⟨g, 0, none⟩) L.length cap, .func (.func f) #[] #[]] w fun e w' => ∃ r : Int, e = .returned (.int .i64 r) ∧ Below w.heap.size w w' ∧ (r = -1 ∨ ∃ k : Nat, k < L.length ∧ r = k) := by
  obtain ⟨n, hn⟩ : ∃ n, n = L.length := ⟨_, rfl⟩
  have CE : Hid (∀ k wr, k < n → Below w.heap.size w wr → wr.cell? ⟨g, k, none⟩ = some (.int .i32 (L.getD k 0))) := Lib.hid (fun k wr hk hb => (hb.cell (p := ⟨g, k, none⟩) K.lt).trans (K.c k _ (row_get e k (by omega))))
  rw [← hn] at hl ⊢
  have HF := Lib.hid hF
  clear K e hn hF
  go_enter Tryz.func81, Tryz.ntmps81
  go_wp2_with fail
  go_loopw [8] (fun i wr => ∃ k : Nat, k ≤ n ∧ i = .int .i64 (k : Int) ∧ Hid (Below w.heap.size w wr)) (fun i _ => n - (intOf i).toNat)
  case atStart => exact ⟨0, Nat.zero_le _, by simp, Lib.hid (Below.refl _ _)⟩
  case round =>
    obtain ⟨k, hk, rfl, hr⟩ := hrel
    by_cases lt : k < n
    · have z := CE.out k wr lt hr.out
      generalize L.getD k 0 = x at *
      have q0 : (0 : Int) ≤ (k : Int) := by omega
      have q5 : (k : Int) < (n : Int) := by omega
      have tn : (k : Int).toNat = k := by omega
      have wk : IntKind.i64.wrap ((k : Int) + 1) = (k : Int) + 1 := IntWalk.i64_in _ (by omega)
      have FX := Lib.hid (HF.out x wr)
      clear CE
      go_wp2_with fail
      refine FX.out.mono ?_; rintro e w2 ⟨⟨b, rfl⟩, hb⟩
      have H2 := Lib.hid (hr.out.trans (hb.mono hr.out.size))
      clear FX hb z hr
      cases b with
      | true =>
        go_wp2_with fail
        go_ret
        exact ⟨k, rfl, H2.out, Or.inr ⟨k, lt, rfl⟩⟩
      | false =>
        go_wp2_with fail
        go_roundw
        case rel => exact ⟨k + 1, by omega, by go_num, H2⟩
        case measure => simp [intOf]; omega
    · have ek : k = n := by omega
      subst ek
      have q5 : ¬ (k : Int) < (k : Int) := by omega
      clear CE
      go_wp2_with fail
      go_ret
      exact ⟨-1, rfl, hr.out, Or.inl rfl⟩
theorem zero32 : ∀ w, (zeroValue 21).run Tryz.prog w = .ok (.int .i32 0) w := fun w => by kernel_rfl
theorem slice_rest (A : Option Addr) (n cap a : Nat) (ha : a ≤ n) (T S : TypeId) (sz : Nat) (hT : Tryz.prog.underlying S = some (.slice (Tryz.prog.elem S))) (hz : ∀ w, (Go.sizeOf (Tryz.prog.elem S)).run Tryz.prog w = .ok sz w) (W : World) : (Instr.slice S (.slice A n cap) (some (.int .i64 (a : Int))) none none).run Tryz.prog W = .ok (sliced A a n cap sz) W := by
  rw [run_slice_l W S _ _ _ hT .i64 _ (by omega) (by omega), hz]
  simp [Result.andThen]
theorem slice_head (A : Option Addr) (n cap a : Nat) (ha : a ≤ cap) (S : TypeId) (sz : Nat) (hT : Tryz.prog.underlying S = some (.slice (Tryz.prog.elem S))) (hz : ∀ w, (Go.sizeOf (Tryz.prog.elem S)).run Tryz.prog w = .ok sz w) (W : World) : (Instr.slice S (.slice A n cap) none (some (.int .i64 (a : Int))) none).run Tryz.prog W = .ok (.slice A a cap) W := by
  rw [run_slice_h W S _ _ _ hT .i64 _ (by omega) (by omega), hz]
  by_cases z : cap = 0
  · subst z
    simp [Result.andThen, sliced]
  · cases A <;> simp [Result.andThen, sliced, z, Addr.add]
def DelR (g cap : Nat) (L : List Int) (w0 : World) (e : Ending) (w' : World) : Prop := ∃ M ys', e = .returned (.slice (some ⟨g, 0, none⟩) M.length cap) ∧ M.length ≤ L.length ∧ (∀ r ∈ M, r ∈ L) ∧ Bk w' g ys' 21 ∧ ys'.take M.length = rns M ∧ Below w0.heap.size w0 w'
set_option maxHeartbeats 8000000 in
set_option maxRecDepth 100000 in
theorem d_DeleteR (f : Nat) (hE : ∀ args w, (callFunc f args).run Tryz.prog w = .ok (.enter f args) w) (hF : TellsR f) (g cap : Nat) (L : List Int) (ys : List Value) (hl : L.length ≤ 1000000000) (hc : L.length ≤ cap) (w0 w : World) (hb : Below w0.heap.size w0 w) (hg : w0.heap.size ≤ g) (K : Bk w g ys 21) (e : ys.take L.length = rns L) :
    Calls Tryz.prog 60 #[.slice (some ⟨g, 0, none⟩) L.length cap, .func (.func f) #[] #[]] w (DelR g cap L w0) := by
  obtain ⟨n, hn⟩ : ∃ n, n = L.length := ⟨_, rfl⟩
  have IX := Lib.hid (d_IndexR f hE hF g cap L ys hl w K e)
  rw [← hn] at IX hl hc ⊢
  have ST : Hid (Below w0.heap.size w0 w ∧ Bk w g ys 21 ∧ ys.take L.length = rns L) := Lib.hid ⟨hb, K, e⟩
  have HF := Lib.hid hF
  have HN := Lib.hid hn
  have HG := Lib.hid hg
  clear K e hn hF hb hg
  go_enter Tryz.func60, Tryz.ntmps60
  go_wp2_with fail
  refine IX.out.mono ?_; rintro e w1 ⟨r, rfl, hb1, hr⟩
  have S1 : Hid (Below w0.heap.size w0 w1 ∧ Bk w1 g ys 21 ∧ ys.take L.length = rns L) := Lib.hid ⟨ST.out.1.trans (hb1.mono ST.out.1.size), ST.out.2.1.of_eq (hb1.block g ST.out.2.1.lt), ST.out.2.2⟩
  clear IX ST hb1
  rcases hr with rfl | ⟨k0, hk0, rfl⟩
  · go_wp2_with fail
    go_ret
    exact ⟨L, ys, by rw [HN.out]; rfl, Nat.le_refl _, fun _ m => m, S1.out.2.1, S1.out.2.2, S1.out.1⟩
  · have nk : ¬ (k0 : Int) = -1 := by omega
    have wk0 : IntKind.i64.wrap ((k0 : Int) + 1) = (k0 : Int) + 1 := IntWalk.i64_in _ (by omega)
    go_wp2_with fail
    go_loopw [5, 6] (fun s5 s6 wr => ∃ (a b : Nat) (M : List Int) (zs : List Value), a ≤ b ∧ b ≤ n ∧ s5 = .int .i64 (a : Int) ∧ s6 = .int .i64 (b : Int) ∧ Hid (Below w0.heap.size w0 wr ∧ Bk wr g zs 21 ∧ zs.take M.length = rns M ∧ M.length = n ∧ ∀ r ∈ M, r ∈ L)) (fun _ s6 _ => n - (intOf s6).toNat)
    case atStart => exact ⟨k0, k0 + 1, L, ys, by omega, by omega, rfl, by simp, Lib.hid ⟨S1.out.1, S1.out.2.1, S1.out.2.2, HN.out.symm, fun _ m => m⟩⟩
    case round =>
      obtain ⟨a, b, M, zs, ab, bn, rfl, rfl, hr⟩ := hrel
      clear S1 nk wk0
      by_cases lt : b < n
      · have z := hr.out.2.1.c b _ (row_get hr.out.2.2.1 b (by rw [hr.out.2.2.2.1]; exact lt))
        have xm : Hid (M.getD b 0 ∈ L) := Lib.hid (hr.out.2.2.2.2 _ (by rw [List.getD_eq_getElem?_getD, List.getElem?_eq_getElem (by rw [hr.out.2.2.2.1]; exact lt)]; exact List.getElem_mem _))
        generalize M.getD b 0 = x at *
        have q0 : (0 : Int) ≤ (b : Int) := by omega
        have q1 : (0 : Int) ≤ (a : Int) := by omega
        have q5 : (b : Int) < (n : Int) := by omega
        have q6 : (a : Int) < (n : Int) := by omega
        have tn : (b : Int).toNat = b := by omega
        have ta : (a : Int).toNat = a := by omega
        have wk : IntKind.i64.wrap ((b : Int) + 1) = (b : Int) + 1 := IntWalk.i64_in _ (by omega)
        have wa : IntKind.i64.wrap ((a : Int) + 1) = (a : Int) + 1 := IntWalk.i64_in _ (by omega)
        have FX := Lib.hid (HF.out x wr)
        go_wp2_with fail
        refine FX.out.mono ?_; rintro e w2 ⟨⟨t, rfl⟩, hb2⟩
        have H2 : Hid (Below w0.heap.size w0 w2 ∧ Bk w2 g zs 21 ∧ zs.take M.length = rns M ∧ M.length = n ∧ ∀ r ∈ M, r ∈ L) := Lib.hid ⟨hr.out.1.trans (hb2.mono hr.out.1.size), hr.out.2.1.of_eq (hb2.block g hr.out.2.1.lt), hr.out.2.2⟩
        clear FX hb2 z hr
        cases t with
        | true =>
          go_wp2_with fail
          go_roundw
          case rel => (repeat apply Exists.intro); exact ⟨⟨a, b + 1, M, zs, by omega, by omega, rfl, by go_num, H2⟩, rfl⟩
          case measure => simp [intOf]; omega
        | false =>
          have y := H2.out.2.1.c a _ (row_get H2.out.2.2.1 a (by rw [H2.out.2.2.2.1]; omega))
          have yf := H2.out.2.1.f a
          have H3 : Hid (Below w0.heap.size w0 (w2.setCell ⟨g, a, none⟩ (.int .i32 x)) ∧ Bk (w2.setCell ⟨g, a, none⟩ (.int .i32 x)) g (zs.set a (.int .i32 x)) 21 ∧ (zs.set a (.int .i32 x)).take (M.set a x).length = rns (M.set a x) ∧ (M.set a x).length = n ∧ ∀ r ∈ M.set a x, r ∈ L) :=
            Lib.hid ⟨H2.out.1.setCell (p := ⟨g, a, none⟩) HG.out _, H2.out.2.1.set a _, row_set H2.out.2.2.1 a x, by rw [List.length_set]; exact H2.out.2.2.2.1, fun r m => (List.mem_or_eq_of_mem_set m).elim (H2.out.2.2.2.2 r) (fun q => by rw [q]; exact xm.out)⟩
          clear H2
          go_wp2_with fail
          go_roundw
          case rel => (repeat apply Exists.intro); exact ⟨⟨a + 1, b + 1, M.set a x, zs.set a (.int .i32 x), by omega, by omega, by go_num, by go_num, H3⟩, rfl⟩
          case measure => simp [intOf]; omega
      · have eb : b = n := by omega
        subst eb
        have q5 : ¬ (b : Int) < (b : Int) := by omega
        have zl : b ≤ zs.length := by
          have := congrArg List.length hr.out.2.2.1
          unfold rns at this
          rw [List.length_take, List.length_map, hr.out.2.2.2.1] at this
          omega
        have SL := slice_rest (some ⟨g, 0, none⟩) b cap a ab 21 98 1 (by kernel_rfl) (fun w => by kernel_rfl)
        have SH := slice_head (some ⟨g, 0, none⟩) b cap a (by omega) 98 1 (by kernel_rfl) (fun w => by kernel_rfl)
        have CL := fun ty => clear_rest hr.out.2.1 hr.out.1 HG.out 98 ty (.int .i32 0) Tryz.underlying98 zero32 1 rfl (by decide) (by intro v m; simp [Value.cells] at m; subst m; rfl) a b cap ab (by omega) hc
        obtain ⟨X, hX⟩ : ∃ X, X = sliced (some (⟨g, 0, none⟩ : Addr)) a b cap 1 := ⟨_, rfl⟩
        rw [← hX] at SL CL
        obtain ⟨w9, ys9, RC, B9, T9, H9⟩ := CL 0
        have F9 : Hid (Bk w9 g ys9 21 ∧ ys9.take (M.take a).length = rns (M.take a) ∧ Below w0.heap.size w0 w9 ∧ (M.take a).length = a ∧ ∀ r ∈ M.take a, r ∈ L) := Lib.hid (by
          have la : (M.take a).length = a := by rw [List.length_take, hr.out.2.2.2.1]; omega
          refine ⟨B9, ?_, H9, la, fun r m => hr.out.2.2.2.2 r (List.mem_of_mem_take m)⟩
          rw [Nat.mul_one] at T9
          rw [la, T9]
          have := congrArg (List.take a) hr.out.2.2.1
          rw [List.take_take, hr.out.2.2.2.1, show min a b = a by omega] at this
          rw [this]
          unfold rns
          rw [List.map_take])
        clear CL hX B9 T9 H9 hr
        go_wp2_with fail
        go_ret
        exact ⟨M.take a, ys9, by rw [F9.out.2.2.2.1]; rfl, by rw [F9.out.2.2.2.1, ← HN.out]; exact ab, F9.out.2.2.2.2, F9.out.1, F9.out.2.1, F9.out.2.2.1⟩
end
end Go.Proofs.YtkllilehdpdbdaaGreatDoor

/- slices.DeleteFunc of clusters; a text's clusters that are shown (Flow). -/
namespace Go.Proofs.YtkllilehdpdbdaaGreatDoor
open Go Go.RowKit Go.Sort
set_option linter.unusedVariables false
set_option linter.unusedSimpArgs false
section
theorem clsD (L : List (ByteArray × Int)) (k : Nat) (hk : k < L.length) : (cls L)[k * 2]? = some (.string (L.getD k (zB, 0)).1) ∧ (cls L)[k * 2 + 1]? = some (.int .i64 (L.getD k (zB, 0)).2) := by
  have := cls_nth L k hk
  have e : L.getD k (zB, 0) = L[k] := by rw [List.getD_eq_getElem?_getD, List.getElem?_eq_getElem hk]; rfl
  rw [e]
  exact this
theorem rowC_get {ys : List Value} {L : List (ByteArray × Int)} (e : ys.take (L.length * 2) = cls L) (k : Nat) (hk : k < L.length) : ys[k * 2]? = some (.string (L.getD k (zB, 0)).1) ∧ ys[k * 2 + 1]? = some (.int .i64 (L.getD k (zB, 0)).2) := by
  have h := clsD L k hk
  have c : ∀ j, j < L.length * 2 → ys[j]? = (cls L)[j]? := fun j hj => by
    have := congrArg (fun l => l[j]?) e
    rw [List.getElem?_take, if_pos hj] at this
    exact this
  rw [c _ (by omega), c _ (by omega)]
  exact h
theorem cls_set : ∀ (L : List (ByteArray × Int)) (k : Nat) (x : ByteArray × Int), ((cls L).set (k * 2) (.string x.1)).set (k * 2 + 1) (.int .i64 x.2) = cls (L.set k x)
  | [], k, x => by simp [cls]
  | p :: l, 0, x => rfl
  | p :: l, k + 1, x => by
    have ih := cls_set l k x
    have e : ∀ q r, cls (q :: r) = .string q.1 :: .int .i64 q.2 :: cls r := fun _ _ => rfl
    rw [List.set_cons_succ, e, e, ← ih, show (k + 1) * 2 = k * 2 + 1 + 1 by omega]
    rfl
theorem rowC_set {ys : List Value} {L : List (ByteArray × Int)} (e : ys.take (L.length * 2) = cls L) (k : Nat) (x : ByteArray × Int) : ((ys.set (k * 2) (.string x.1)).set (k * 2 + 1) (.int .i64 x.2)).take ((L.set k x).length * 2) = cls (L.set k x) := by
  rw [List.length_set, List.take_set, List.take_set, e, cls_set]
/-- is a cluster one that is not shown? -/
def delC (p : ByteArray × Int) : Bool := decide (p.2 = 0) && decide (p.1 ≠ ⟨#[10]⟩)
theorem d_Flow2 (p : ByteArray × Int) (w : World) : Calls Tryz.prog 66 #[.agg #[.string p.1, .int .i64 p.2]] w fun e w' => e = .returned (.bool (delC p)) ∧ Below w.heap.size w w' := by
  obtain ⟨t, u⟩ := p
  have SB := eq_bytes t ⟨#[10]⟩
  have DC : Hid (delC (t, u) = (decide (u = 0) && !decide (t = ⟨#[10]⟩))) := Lib.hid (by unfold delC; simp)
  simp only
  obtain ⟨Q, hQ⟩ : ∃ Q, Q = w.alloc (.cells #[.string t, .int .i64 u] 78) := ⟨_, rfl⟩
  have BQ := Lib.hid (show Below w.heap.size w Q by rw [hQ]; exact (Below.refl _ w).alloc (Nat.le_refl _) _)
  have K : Bk Q w.heap.size [.string t, .int .i64 u] 78 := by rw [hQ]; exact Bk.new w _ _
  have k0 := K.c 0 _ rfl
  have k1 := K.c 1 _ rfl
  have HQ := Lib.hid hQ
  clear K hQ
  by_cases u0 : u = 0
  · by_cases tt : t = ⟨#[10]⟩
    · have DD : Hid (delC (t, u) = false) := Lib.hid (by rw [DC.out, decide_eq_true u0, decide_eq_true tt]; rfl)
      subst u0 tt
      go_enter Tryz.func66, Tryz.ntmps66
      go_upto_region 1 with fail
      rw [← HQ.out]
      go_wp2_with fail
      go_ret
      exact ⟨by rw [DD.out]; rfl, BQ.out⟩
    · have DD : Hid (delC (t, u) = true) := Lib.hid (by rw [DC.out, decide_eq_true u0, decide_eq_false tt]; rfl)
      have tl : (t.toList == [10]) = false := (eq_list t [10]).trans (decide_eq_false tt)
      subst u0
      go_enter Tryz.func66, Tryz.ntmps66
      go_upto_region 1 with fail
      rw [← HQ.out]
      go_wp2_with fail
      go_ret
      exact ⟨by rw [DD.out]; rfl, BQ.out⟩
  · have DD : Hid (delC (t, u) = false) := Lib.hid (by rw [DC.out, decide_eq_false u0]; rfl)
    go_enter Tryz.func66, Tryz.ntmps66
    go_upto_region 1 with fail
    rw [← HQ.out]
    go_wp2_with fail
    go_ret
    exact ⟨by rw [DD.out]; rfl, BQ.out⟩
theorem d_Flow1 : TellsR 61 := by
  intro r w
  have KD := Lib.hid (d_Kind r w)
  by_cases a : r = 10
  · subst a
    go_enter Tryz.func61, Tryz.ntmps61
    go_wp2_with fail
    go_ret
    exact ⟨⟨_, rfl⟩, Below.refl _ _⟩
  · by_cases b : r = 9
    · subst b
      go_enter Tryz.func61, Tryz.ntmps61
      go_wp2_with fail
      go_ret
      exact ⟨⟨_, rfl⟩, Below.refl _ _⟩
    · generalize kindI r = k at *
      go_enter Tryz.func61, Tryz.ntmps61
      go_wp2_with fail
      refine KD.out.mono ?_; rintro e w1 ⟨rfl, hb⟩
      have HB := Lib.hid hb
      clear hb
      go_wp2_with fail
      go_ret
      exact ⟨⟨_, rfl⟩, HB.out⟩
set_option maxHeartbeats 8000000 in
set_option maxRecDepth 100000 in
theorem d_IndexC (g cap : Nat) (L : List (ByteArray × Int)) (ys : List Value) (hl : L.length ≤ 1000000000) (w : World) (K : Bk w g ys 78) (e : ys.take (L.length * 2) = cls L) :
    Calls Tryz.prog 86 #[.slice (some ⟨g, 0, none⟩) L.length cap, .func (.func 66) #[] #[]] w fun e w' => ∃ r : Int, e = .returned (.int .i64 r) ∧ Below w.heap.size w w' ∧ (r = -1 ∧ (∀ j, j < L.length → delC (L.getD j (zB, 0)) = false) ∨ ∃ k : Nat, k < L.length ∧ r = k ∧ ∀ j, j < k → delC (L.getD j (zB, 0)) = false) := by
  have hE : ∀ args w, (callFunc 66 args).run Tryz.prog w = .ok (.enter 66 args) w := fun args w => by kernel_rfl
  obtain ⟨n, hn⟩ : ∃ n, n = L.length := ⟨_, rfl⟩
  have CE : Hid (∀ k wr, k < n → Below w.heap.size w wr → wr.cell? ⟨g, k * 2, none⟩ = some (.string (L.getD k (zB, 0)).1) ∧ wr.cell? ⟨g, k * 2 + 1, none⟩ = some (.int .i64 (L.getD k (zB, 0)).2)) := Lib.hid (fun k wr hk hb => by
    obtain ⟨a, b⟩ := rowC_get e k (by omega)
    exact ⟨(hb.cell (p := ⟨g, k * 2, none⟩) K.lt).trans (K.c _ _ a), (hb.cell (p := ⟨g, k * 2 + 1, none⟩) K.lt).trans (K.c _ _ b)⟩)
  rw [← hn] at hl ⊢
  clear K e hn
  go_enter Tryz.func86, Tryz.ntmps86
  go_wp2_with fail
  go_loopw [8] (fun i wr => ∃ k : Nat, k ≤ n ∧ i = .int .i64 (k : Int) ∧ Hid (Below w.heap.size w wr ∧ ∀ j, j < k → delC (L.getD j (zB, 0)) = false)) (fun i _ => n - (intOf i).toNat)
  case atStart => exact ⟨0, Nat.zero_le _, by simp, Lib.hid ⟨Below.refl _ _, fun j h => by omega⟩⟩
  case round =>
    obtain ⟨k, hk, rfl, hr⟩ := hrel
    by_cases lt : k < n
    · obtain ⟨z1, z2⟩ := CE.out k wr lt hr.out.1
      have FX := Lib.hid (d_Flow2 (L.getD k (zB, 0)) wr)
      obtain ⟨d, hd⟩ : ∃ d, d = delC (L.getD k (zB, 0)) := ⟨_, rfl⟩
      rw [← hd] at FX
      have HD := Lib.hid hd
      clear hd
      generalize (L.getD k (zB, 0)).1 = x1 at *
      generalize (L.getD k (zB, 0)).2 = x2 at *
      have q0 : (0 : Int) ≤ (k : Int) := by omega
      have q5 : (k : Int) < (n : Int) := by omega
      have tn : (k : Int).toNat = k := by omega
      have wk : IntKind.i64.wrap ((k : Int) + 1) = (k : Int) + 1 := IntWalk.i64_in _ (by omega)
      clear CE
      go_wp2_with fail
      refine FX.out.mono ?_; rintro e w2 ⟨rfl, hb⟩
      have H2 := Lib.hid (hr.out.1.trans (hb.mono hr.out.1.size))
      have HR := Lib.hid hr.out.2
      clear FX hb z1 z2 hr
      cases d with
      | true =>
        go_wp2_with fail
        go_ret
        exact ⟨k, rfl, H2.out, Or.inr ⟨k, lt, rfl, HR.out⟩⟩
      | false =>
        go_wp2_with fail
        go_roundw
        case rel => exact ⟨k + 1, by omega, by go_num, Lib.hid ⟨H2.out, fun j hj => by
          rcases Nat.lt_or_ge j k with a | a
          · exact HR.out j a
          · rw [show j = k by omega]; exact HD.out.symm⟩⟩
        case measure => simp [intOf]; omega
    · have ek : k = n := by omega
      subst ek
      have q5 : ¬ (k : Int) < (k : Int) := by omega
      clear CE
      go_wp2_with fail
      go_ret
      exact ⟨-1, rfl, hr.out.1, Or.inl ⟨rfl, hr.out.2⟩⟩
theorem cls_take : ∀ (M : List (ByteArray × Int)) (a : Nat), cls (M.take a) = (cls M).take (a * 2)
  | [], a => by simp [cls]
  | p :: l, 0 => rfl
  | p :: l, a + 1 => by
    have e : ∀ q r, cls (q :: r) = .string q.1 :: .int .i64 q.2 :: cls r := fun _ _ => rfl
    rw [List.take_succ_cons, e, e, cls_take l a, show (a + 1) * 2 = a * 2 + 1 + 1 by omega]
    rfl
theorem zeroCl : ∀ w, (zeroValue 78).run Tryz.prog w = .ok (.agg #[.string ⟨#[]⟩, .int .i64 0]) w := fun w => by kernel_rfl
def DelC (g cap : Nat) (L : List (ByteArray × Int)) (w0 : World) (e : Ending) (w' : World) : Prop := ∃ M ys', e = .returned (.slice (some ⟨g, 0, none⟩) M.length cap) ∧ M.length ≤ L.length ∧ (∀ p ∈ M, p ∈ L ∧ delC p = false) ∧ Bk w' g ys' 78 ∧ ys'.take (M.length * 2) = cls M ∧ Below w0.heap.size w0 w'
theorem getC_mem {L : List (ByteArray × Int)} {k : Nat} (h : k < L.length) : L.getD k (zB, 0) ∈ L := by
  rw [List.getD_eq_getElem?_getD, List.getElem?_eq_getElem h]
  exact List.getElem_mem h
theorem mem_getD {L : List (ByteArray × Int)} {p : ByteArray × Int} (h : p ∈ L) : ∃ k, k < L.length ∧ L.getD k (zB, 0) = p := by
  obtain ⟨k, hk, e⟩ := List.mem_iff_getElem.1 h
  exact ⟨k, hk, by rw [List.getD_eq_getElem?_getD, List.getElem?_eq_getElem hk]; exact e⟩
set_option maxHeartbeats 8000000 in
set_option maxRecDepth 100000 in
theorem d_DeleteC (g cap : Nat) (L : List (ByteArray × Int)) (ys : List Value) (hl : L.length ≤ 1000000000) (hc : L.length ≤ cap) (w0 w : World) (hb : Below w0.heap.size w0 w) (hg : w0.heap.size ≤ g) (K : Bk w g ys 78) (e : ys.take (L.length * 2) = cls L) :
    Calls Tryz.prog 65 #[.slice (some ⟨g, 0, none⟩) L.length cap, .func (.func 66) #[] #[]] w (DelC g cap L w0) := by
  have hE : ∀ args w, (callFunc 66 args).run Tryz.prog w = .ok (.enter 66 args) w := fun args w => by kernel_rfl
  obtain ⟨n, hn⟩ : ∃ n, n = L.length := ⟨_, rfl⟩
  have IX := Lib.hid (d_IndexC g cap L ys hl w K e)
  rw [← hn] at IX hl hc ⊢
  have ST : Hid (Below w0.heap.size w0 w ∧ Bk w g ys 78 ∧ ys.take (L.length * 2) = cls L) := Lib.hid ⟨hb, K, e⟩
  have HN := Lib.hid hn
  have HG := Lib.hid hg
  clear K e hn hb hg
  go_enter Tryz.func65, Tryz.ntmps65
  go_wp2_with fail
  refine IX.out.mono ?_; rintro e w1 ⟨r, rfl, hb1, hr⟩
  have S1 : Hid (Below w0.heap.size w0 w1 ∧ Bk w1 g ys 78 ∧ ys.take (L.length * 2) = cls L) := Lib.hid ⟨ST.out.1.trans (hb1.mono ST.out.1.size), ST.out.2.1.of_eq (hb1.block g ST.out.2.1.lt), ST.out.2.2⟩
  clear IX ST hb1
  rcases hr with ⟨rfl, hd⟩ | ⟨k0, hk0, rfl, hd⟩
  · have HD := Lib.hid hd
    clear hd
    go_wp2_with fail
    go_ret
    exact ⟨L, ys, by rw [HN.out]; rfl, Nat.le_refl _, fun p m => ⟨m, by
      obtain ⟨k, hk, e⟩ := mem_getD m
      rw [← e]
      exact HD.out k (by rw [HN.out]; exact hk)⟩, S1.out.2.1, S1.out.2.2, S1.out.1⟩
  · have nk : ¬ (k0 : Int) = -1 := by omega
    have wk0 : IntKind.i64.wrap ((k0 : Int) + 1) = (k0 : Int) + 1 := IntWalk.i64_in _ (by omega)
    have HD := Lib.hid hd
    clear hd
    go_wp2_with fail
    go_loopw [5, 6] (fun s5 s6 wr => ∃ (a b : Nat) (M : List (ByteArray × Int)) (zs : List Value), a ≤ b ∧ b ≤ n ∧ s5 = .int .i64 (a : Int) ∧ s6 = .int .i64 (b : Int) ∧ Hid (Below w0.heap.size w0 wr ∧ Bk wr g zs 78 ∧ zs.take (M.length * 2) = cls M ∧ M.length = n ∧ (∀ r ∈ M, r ∈ L) ∧ ∀ j, j < a → delC (M.getD j (zB, 0)) = false)) (fun _ s6 _ => n - (intOf s6).toNat)
    case atStart => exact ⟨k0, k0 + 1, L, ys, by omega, by omega, rfl, by simp, Lib.hid ⟨S1.out.1, S1.out.2.1, S1.out.2.2, HN.out.symm, fun _ m => m, HD.out⟩⟩
    case round =>
      obtain ⟨a, b, M, zs, ab, bn, rfl, rfl, hr⟩ := hrel
      clear S1 nk wk0 HD
      by_cases lt : b < n
      · obtain ⟨c1, c2⟩ := rowC_get hr.out.2.2.1 b (by rw [hr.out.2.2.2.1]; exact lt)
        have z1 := hr.out.2.1.c _ _ c1
        have z2 := hr.out.2.1.c _ _ c2
        have xm : Hid (M.getD b (zB, 0) ∈ L) := Lib.hid (hr.out.2.2.2.2.1 _ (getC_mem (by rw [hr.out.2.2.2.1]; exact lt)))
        obtain ⟨x, hx⟩ : ∃ x, x = M.getD b (zB, 0) := ⟨_, rfl⟩
        rw [← hx] at z1 z2 xm
        obtain ⟨x1, x2⟩ := x
        simp only at z1 z2
        clear c1 c2 hx
        have q0 : (0 : Int) ≤ (b : Int) := by omega
        have q1 : (0 : Int) ≤ (a : Int) := by omega
        have q5 : (b : Int) < (n : Int) := by omega
        have q6 : (a : Int) < (n : Int) := by omega
        have tn : (b : Int).toNat = b := by omega
        have ta : (a : Int).toNat = a := by omega
        have wk : IntKind.i64.wrap ((b : Int) + 1) = (b : Int) + 1 := IntWalk.i64_in _ (by omega)
        have wa : IntKind.i64.wrap ((a : Int) + 1) = (a : Int) + 1 := IntWalk.i64_in _ (by omega)
        obtain ⟨X, hX⟩ : ∃ X, X = wr.alloc (.cells #[.string x1, .int .i64 x2] 78) := ⟨_, rfl⟩
        have BX : Below wr.heap.size wr X := by rw [hX]; exact (Below.refl _ wr).alloc (Nat.le_refl _) _
        have K2 : Bk X wr.heap.size [.string x1, .int .i64 x2] 78 := by rw [hX]; exact Bk.new wr _ _
        have k0' := K2.c 0 _ rfl
        have k1' := K2.c 1 _ rfl
        have FX := Lib.hid (d_Flow2 (x1, x2) X)
        obtain ⟨d, hd⟩ : ∃ d, d = delC (x1, x2) := ⟨_, rfl⟩
        rw [← hd] at FX
        have HDD := Lib.hid hd
        have HX := Lib.hid hX
        obtain ⟨q, hq⟩ : ∃ q, q = wr.heap.size := ⟨_, rfl⟩
        have HQ := Lib.hid hq
        clear hd hX
        go_upto_region 8 with fail
        rw [← HX.out]
        go_wp2_with fail
        refine FX.out.mono ?_; rintro e w2 ⟨rfl, hb2⟩
        have B2 := BX.trans (hb2.mono BX.size)
        have H2 : Hid (Below w0.heap.size w0 w2 ∧ Bk w2 g zs 78 ∧ zs.take (M.length * 2) = cls M ∧ M.length = n ∧ (∀ r ∈ M, r ∈ L) ∧ ∀ j, j < a → delC (M.getD j (zB, 0)) = false) := Lib.hid ⟨hr.out.1.trans (B2.mono hr.out.1.size), hr.out.2.1.of_eq (B2.block g hr.out.2.1.lt), hr.out.2.2⟩
        have K3 := K2.of_eq (hb2.block _ K2.lt)
        have m0 := K3.c 0 _ rfl
        have m1 := K3.c 1 _ rfl
        clear FX hb2 z1 z2 hr B2 BX K2 K3 k0' k1' HX hq
        cases d with
        | true =>
          go_wp2_with fail
          go_roundw
          case rel => (repeat apply Exists.intro); exact ⟨⟨a, b + 1, M, zs, by omega, by omega, rfl, by go_num, H2⟩, rfl⟩
          case measure => simp [intOf]; omega
        | false =>
          obtain ⟨c1, c2⟩ := rowC_get H2.out.2.2.1 a (by rw [H2.out.2.2.2.1]; omega)
          have y1 := H2.out.2.1.c _ _ c1
          have y2 := H2.out.2.1.c _ _ c2
          have f1 := H2.out.2.1.f (a * 2)
          have f2 := H2.out.2.1.f (a * 2 + 1)
          have H3 : Hid (Below w0.heap.size w0 ((w2.setCell ⟨g, a * 2, none⟩ (.string x1)).setCell ⟨g, a * 2 + 1, none⟩ (.int .i64 x2)) ∧ Bk ((w2.setCell ⟨g, a * 2, none⟩ (.string x1)).setCell ⟨g, a * 2 + 1, none⟩ (.int .i64 x2)) g ((zs.set (a * 2) (.string x1)).set (a * 2 + 1) (.int .i64 x2)) 78 ∧ ((zs.set (a * 2) (.string x1)).set (a * 2 + 1) (.int .i64 x2)).take ((M.set a (x1, x2)).length * 2) = cls (M.set a (x1, x2)) ∧ (M.set a (x1, x2)).length = n ∧ (∀ r ∈ M.set a (x1, x2), r ∈ L) ∧ ∀ j, j < a + 1 → delC ((M.set a (x1, x2)).getD j (zB, 0)) = false) :=
            Lib.hid ⟨(H2.out.1.setCell (p := ⟨g, a * 2, none⟩) HG.out _).setCell (p := ⟨g, a * 2 + 1, none⟩) HG.out _, (H2.out.2.1.set _ _).set _ _, rowC_set H2.out.2.2.1 a (x1, x2), by rw [List.length_set]; exact H2.out.2.2.2.1, fun r m => (List.mem_or_eq_of_mem_set m).elim (H2.out.2.2.2.2.1 r) (fun q => by rw [q]; exact xm.out), fun j hj => by
              have al : a < M.length := by rw [H2.out.2.2.2.1]; omega
              rw [List.getD_eq_getElem?_getD, List.getElem?_set]
              by_cases ja : a = j
              · rw [if_pos ja, if_pos al]
                exact HDD.out.symm
              · rw [if_neg ja, ← List.getD_eq_getElem?_getD]
                exact H2.out.2.2.2.2.2 j (by omega)⟩
          clear H2 c1 c2
          go_wp2_with fail
          go_roundw
          case rel => (repeat apply Exists.intro); exact ⟨⟨a + 1, b + 1, M.set a (x1, x2), (zs.set (a * 2) (.string x1)).set (a * 2 + 1) (.int .i64 x2), by omega, by omega, by go_num, by go_num, H3⟩, rfl⟩
          case measure => simp [intOf]; omega
      · have eb : b = n := by omega
        subst eb
        have q5 : ¬ (b : Int) < (b : Int) := by omega
        have zl : b * 2 ≤ zs.length := by
          have := congrArg List.length hr.out.2.2.1
          rw [List.length_take, cls_len, hr.out.2.2.2.1] at this
          omega
        have SL := slice_rest (some ⟨g, 0, none⟩) b cap a ab 78 75 2 (by kernel_rfl) (fun w => by kernel_rfl)
        have SH := slice_head (some ⟨g, 0, none⟩) b cap a (by omega) 75 2 (by kernel_rfl) (fun w => by kernel_rfl)
        have CL := fun ty => clear_rest hr.out.2.1 hr.out.1 HG.out 75 ty (.agg #[.string ⟨#[]⟩, .int .i64 0]) Tryz.underlying75 zeroCl 2 rfl (by decide) (by intro v m; simp [Value.cells] at m; rcases m with rfl | rfl <;> rfl) a b cap ab (by omega) hc
        obtain ⟨X, hX⟩ : ∃ X, X = sliced (some (⟨g, 0, none⟩ : Addr)) a b cap 2 := ⟨_, rfl⟩
        rw [← hX] at SL CL
        obtain ⟨w9, ys9, RC, B9, T9, H9⟩ := CL 0
        have F9 : Hid (Bk w9 g ys9 78 ∧ ys9.take ((M.take a).length * 2) = cls (M.take a) ∧ Below w0.heap.size w0 w9 ∧ (M.take a).length = a ∧ ∀ r ∈ M.take a, r ∈ L ∧ delC r = false) := Lib.hid (by
          have la : (M.take a).length = a := by rw [List.length_take, hr.out.2.2.2.1]; omega
          refine ⟨B9, ?_, H9, la, fun r m => ⟨hr.out.2.2.2.2.1 r (List.mem_of_mem_take m), ?_⟩⟩
          · rw [la, T9]
            have := congrArg (List.take (a * 2)) hr.out.2.2.1
            rw [List.take_take, hr.out.2.2.2.1, show min (a * 2) (b * 2) = a * 2 by omega] at this
            rw [this]
            exact (cls_take M a).symm
          · obtain ⟨k, hk, e⟩ := mem_getD m
            have := hr.out.2.2.2.2.2 k (by omega)
            rw [← e, List.getD_eq_getElem?_getD, List.getElem?_take, if_pos (by omega), ← List.getD_eq_getElem?_getD]
            exact this)
        clear CL hX B9 T9 H9 hr
        go_wp2_with fail
        go_ret
        exact ⟨M.take a, ys9, by rw [F9.out.2.2.2.1]; rfl, by rw [F9.out.2.2.2.1, ← HN.out]; exact ab, F9.out.2.2.2.2, F9.out.1, F9.out.2.1, F9.out.2.2.1⟩
end
end Go.Proofs.YtkllilehdpdbdaaGreatDoor

/- A text's clusters that are shown: Flow. -/
namespace Go.Proofs.YtkllilehdpdbdaaGreatDoor
open Go Go.RowKit Go.Sort
set_option linter.unusedVariables false
set_option linter.unusedSimpArgs false
section
set_option maxRecDepth 100000 in
theorem d_DeleteR0 (f : Nat) (w : World) : Calls Tryz.prog 60 #[.slice none 0 0, .func (.func f) #[] #[]] w fun e w' => e = .returned (.slice none 0 0) ∧ w' = w := by
  have IX : Hid (Calls Tryz.prog 81 #[.slice none 0 0, .func (.func f) #[] #[]] w fun e w' => e = .returned (.int .i64 (-1)) ∧ w' = w) := Lib.hid (by
    go_enter Tryz.func81, Tryz.ntmps81
    go_wp2_with fail
    go_loopw [8] (fun i wr => i = .int .i64 0 ∧ wr = w) (fun i _ => 0)
    case atStart => exact ⟨rfl, rfl⟩
    case round =>
      obtain ⟨rfl, rfl⟩ := hrel
      go_wp2_with fail
      go_ret
      exact ⟨rfl, rfl⟩)
  go_enter Tryz.func60, Tryz.ntmps60
  go_wp2_with fail
  refine IX.out.mono ?_; rintro e w1 ⟨rfl, hw⟩
  rw [hw]
  go_wp2_with fail
  go_ret
  exact ⟨rfl, rfl⟩
set_option maxRecDepth 100000 in
theorem d_DeleteC0 (f : Nat) (w : World) : Calls Tryz.prog 65 #[.slice none 0 0, .func (.func f) #[] #[]] w fun e w' => e = .returned (.slice none 0 0) ∧ w' = w := by
  have IX : Hid (Calls Tryz.prog 86 #[.slice none 0 0, .func (.func f) #[] #[]] w fun e w' => e = .returned (.int .i64 (-1)) ∧ w' = w) := Lib.hid (by
    go_enter Tryz.func86, Tryz.ntmps86
    go_wp2_with fail
    go_loopw [8] (fun i wr => i = .int .i64 0 ∧ wr = w) (fun i _ => 0)
    case atStart => exact ⟨rfl, rfl⟩
    case round =>
      obtain ⟨rfl, rfl⟩ := hrel
      go_wp2_with fail
      go_ret
      exact ⟨rfl, rfl⟩)
  go_enter Tryz.func65, Tryz.ntmps65
  go_wp2_with fail
  refine IX.out.mono ?_; rintro e w1 ⟨rfl, hw⟩
  rw [hw]
  go_wp2_with fail
  go_ret
  exact ⟨rfl, rfl⟩
/-- a row of runes that is newer than a world, or none -/
def RowR (w0 w : World) (v : Value) (M : List Int) : Prop := (v = .slice none 0 0 ∧ M = []) ∨ ∃ g cap ys, v = .slice (some ⟨g, 0, none⟩) M.length cap ∧ w0.heap.size ≤ g ∧ M.length ≤ cap ∧ Bk w g ys 21 ∧ ys.take M.length = rns M
theorem RowR.below {w0 w w' : World} {v : Value} {M : List Int} (h : RowR w0 w v M) (hb : Below w.heap.size w w') : RowR w0 w' v M := by
  rcases h with a | ⟨g, cap, ys, e, h1, h2, h4, h5⟩
  · exact Or.inl a
  · exact Or.inr ⟨g, cap, ys, e, h1, h2, h4.of_eq (hb.block g h4.lt), h5⟩
theorem RowR.of_own {w0 w : World} {v : Value} {M : List Int} (h : w.ownsRow w0.heap.size 21 1 v M.length (rns M)) : RowR w0 w v M := by
  rcases h.2 with ⟨e, z⟩ | ⟨g, cap, cur, e, h2, h3, h4, h5, h6, h7⟩
  · exact Or.inl ⟨e, List.eq_nil_of_length_eq_zero z⟩
  · refine Or.inr ⟨g, cap, cur.toList, e, h2, h4, by unfold Bk; rw [h3], ?_⟩
    rw [Nat.mul_one] at h7
    exact h7
/-- the same of clusters -/
def RowC (w0 w : World) (v : Value) (M : List (ByteArray × Int)) : Prop := (v = .slice none 0 0 ∧ M = []) ∨ ∃ g cap ys, v = .slice (some ⟨g, 0, none⟩) M.length cap ∧ w0.heap.size ≤ g ∧ M.length ≤ cap ∧ Bk w g ys 78 ∧ ys.take (M.length * 2) = cls M
theorem RowC.of_own {w0 w : World} {v : Value} {M : List (ByteArray × Int)} (h : w.ownsRow w0.heap.size 78 2 v M.length (cls M)) : RowC w0 w v M := by
  rcases h.2 with ⟨e, z⟩ | ⟨g, cap, cur, e, h2, h3, h4, h5, h6, h7⟩
  · exact Or.inl ⟨e, List.eq_nil_of_length_eq_zero z⟩
  · exact Or.inr ⟨g, cap, cur.toList, e, h2, h4, by unfold Bk; rw [h3], h7⟩
theorem RowC.sees {w0 w : World} {v : Value} {M : List (ByteArray × Int)} (h : RowC w0 w v M) : ∃ A c, v = .slice A M.length c ∧ M.length ≤ c ∧ Sees w w.heap.size A (cls M) := by
  rcases h with ⟨rfl, rfl⟩ | ⟨g, cap, ys, rfl, h1, h2, h4, h5⟩
  · exact ⟨none, 0, rfl, Nat.le_refl _, Sees.nil _ _ _⟩
  · refine ⟨_, _, rfl, h2, fun _ => ⟨_, rfl, h4.lt, fun j u hj => ?_⟩⟩
    rw [add_at, Nat.zero_add]
    refine h4.c j u ?_
    have lj := (List.getElem?_eq_some_iff.1 hj).1
    rw [cls_len] at lj
    rw [← h5, List.getElem?_take, if_pos lj] at hj
    exact hj
theorem RowR.sees {w0 w : World} {v : Value} {M : List Int} (h : RowR w0 w v M) : ∃ A c, v = .slice A M.length c ∧ M.length ≤ c ∧ Sees w w.heap.size A (rns M) := by
  rcases h with ⟨rfl, rfl⟩ | ⟨g, cap, ys, rfl, h1, h2, h4, h5⟩
  · exact ⟨none, 0, rfl, Nat.le_refl _, Sees.nil _ _ _⟩
  · refine ⟨_, _, rfl, h2, fun _ => ⟨_, rfl, h4.lt, fun j u hj => ?_⟩⟩
    rw [add_at, Nat.zero_add]
    refine h4.c j u ?_
    have lj := (List.getElem?_eq_some_iff.1 hj).1
    unfold rns at lj
    rw [List.length_map] at lj
    rw [← h5, List.getElem?_take, if_pos lj] at hj
    exact hj
theorem d_DelR (f : Nat) (hE : ∀ args w, (callFunc f args).run Tryz.prog w = .ok (.enter f args) w) (hF : TellsR f) (L : List Int) (hl : L.length ≤ 1000000000) (w0 w : World) (v : Value) (hb : Below w0.heap.size w0 w) (h : RowR w0 w v L) :
    Calls Tryz.prog 60 #[v, .func (.func f) #[] #[]] w fun e w' => ∃ v' M, e = .returned v' ∧ RowR w0 w' v' M ∧ M.length ≤ L.length ∧ (∀ r ∈ M, r ∈ L) ∧ Below w0.heap.size w0 w' := by
  rcases h with ⟨rfl, rfl⟩ | ⟨g, cap, ys, rfl, h1, h2, h4, h5⟩
  · refine (d_DeleteR0 f w).mono ?_
    rintro e w' ⟨rfl, rfl⟩
    exact ⟨_, [], rfl, Or.inl ⟨rfl, rfl⟩, Nat.le_refl _, fun _ m => m, hb⟩
  · refine (d_DeleteR f hE hF g cap L ys hl h2 w0 w hb h1 h4 h5).mono ?_
    rintro e w' ⟨M, ys', rfl, a, b, c, d, e⟩
    exact ⟨_, M, rfl, Or.inr ⟨g, cap, ys', rfl, h1, by omega, c, d⟩, a, b, e⟩
theorem d_DelC (L : List (ByteArray × Int)) (hl : L.length ≤ 1000000000) (w0 w : World) (v : Value) (hb : Below w0.heap.size w0 w) (h : RowC w0 w v L) :
    Calls Tryz.prog 65 #[v, .func (.func 66) #[] #[]] w fun e w' => ∃ v' M, e = .returned v' ∧ RowC w0 w' v' M ∧ M.length ≤ L.length ∧ (∀ p ∈ M, p ∈ L ∧ delC p = false) ∧ Below w0.heap.size w0 w' := by
  rcases h with ⟨rfl, rfl⟩ | ⟨g, cap, ys, rfl, h1, h2, h4, h5⟩
  · refine (d_DeleteC0 _ w).mono ?_
    rintro e w' ⟨rfl, rfl⟩
    exact ⟨_, [], rfl, Or.inl ⟨rfl, rfl⟩, Nat.le_refl _, (fun _ m => by cases m), hb⟩
  · refine (d_DeleteC g cap L ys hl h2 w0 w hb h1 h4 h5).mono ?_
    rintro e w' ⟨M, ys', rfl, a, b, c, d, e⟩
    exact ⟨_, M, rfl, Or.inr ⟨g, cap, ys', rfl, h1, by omega, c, d⟩, a, b, e⟩
/-- what Flow tells -/
def FlowR (w0 : World) (s : ByteArray) (e : Ending) (w' : World) : Prop := ∃ A c L, e = .returned (.slice A L.length c) ∧ L.length ≤ c ∧ Sees w' w'.heap.size A (cls L) ∧ L.length ≤ 4 * s.size ∧ (∀ p ∈ L, p.1 ≠ ⟨#[10]⟩ → ∃ c, GoodC c ∧ p = (barr (textI c), wideC c)) ∧ Below w0.heap.size w0 w'
set_option maxHeartbeats 8000000 in
set_option maxRecDepth 100000 in
theorem d_Flow (s : ByteArray) (hs : s.size ≤ 65536) (w : World) : Calls Tryz.prog 36 #[.string s] w (FlowR w s) := by
  have hE : ∀ args w, (callFunc 61 args).run Tryz.prog w = .ok (.enter 61 args) w := fun args w => by kernel_rfl
  have R1 := Lib.hid (d_Runes s (by omega) w)
  have RL := Lib.hid (runesB_len _ s rfl)
  have RR := Lib.hid (runesB_rng _ s rfl)
  go_enter Tryz.func36, Tryz.ntmps36
  go_wp2_with fail
  refine R1.out.mono ?_; rintro e w1 ⟨v1, rfl, o1, b1⟩
  have D1 := Lib.hid (d_DelR 61 hE d_Flow1 (runesB s) (by have := RL.out; omega) w w1 v1 b1 (RowR.of_own o1))
  clear R1 o1 b1
  go_wp2_with fail
  refine D1.out.mono ?_; rintro e w2 ⟨v2, M, rfl, r2, ml, mm, b2⟩
  have LM := Lib.hid (show M.length ≤ s.size by have := RL.out; omega)
  have RM : Hid (∀ r ∈ M, 0 ≤ r ∧ r < 2097152) := Lib.hid (fun r m => RR.out r (mm r m))
  clear D1 RL RR ml mm
  have S2 : Hid (RowR w w2 v2 M ∧ Below w.heap.size w w2) := Lib.hid ⟨r2, b2⟩
  obtain ⟨A2, c2, e2, _, _⟩ := r2.sees
  obtain ⟨n, hn⟩ : ∃ n, n = M.length := ⟨_, rfl⟩
  rw [← hn] at e2
  have HN := Lib.hid hn
  clear r2 b2 hn
  subst e2
  go_wp2_with fail
  go_loopw [13] (fun i wr => ∃ (k : Nat) (K : List Int), k ≤ n ∧ i = .int .i64 (k : Int) ∧ Hid (RowR w wr (.slice A2 n c2) K ∧ Below w.heap.size w wr ∧ K.length = n ∧ ∀ r ∈ K, 0 ≤ r ∧ r < 2097152)) (fun i _ => n - (intOf i).toNat)
  case atStart => exact ⟨0, M, Nat.zero_le _, by simp, Lib.hid ⟨S2.out.1, S2.out.2, HN.out.symm, RM.out⟩⟩
  case round =>
    obtain ⟨k, K, hk, rfl, hr⟩ := hrel
    clear S2 RM
    by_cases lt : k < n
    · obtain ⟨rr, rb, rl, rg⟩ := hr.out
      rcases rr with ⟨_, rfl⟩ | ⟨g, cap, ys, ev, h1, h2, h4, h5⟩
      · simp at rl; omega
      simp only [Value.slice.injEq] at ev
      obtain ⟨rfl, _, rfl⟩ := ev
      have z := h4.c k _ (row_get h5 k (by omega))
      have zf := h4.f k
      have xr := rg _ (getD_mem (l := K) k (by omega))
      generalize K.getD k 0 = x at *
      have q0 : (0 : Int) ≤ (k : Int) := by omega
      have q5 : (k : Int) < (n : Int) := by omega
      have tn : (k : Int).toNat = k := by omega
      have wk : IntKind.i64.wrap ((k : Int) + 1) = (k : Int) + 1 := IntWalk.i64_in _ (by have := LM.out; have := HN.out; omega)
      have H0 := Lib.hid hr.out
      have H3 : Hid (RowR w (wr.setCell ⟨g, k, none⟩ (.int .i32 32)) (.slice (some ⟨g, 0, none⟩) n c2) (K.set k 32) ∧ Below w.heap.size w (wr.setCell ⟨g, k, none⟩ (.int .i32 32)) ∧ (K.set k 32).length = n ∧ ∀ r ∈ K.set k 32, 0 ≤ r ∧ r < 2097152) := Lib.hid ⟨Or.inr ⟨g, c2, ys.set k (.int .i32 32), by rw [List.length_set, rl], h1, by rw [List.length_set]; exact h2, h4.set k _, row_set h5 k 32⟩, rb.setCell (p := ⟨g, k, none⟩) h1 _, by rw [List.length_set]; exact rl, fun r m => (List.mem_or_eq_of_mem_set m).elim (rg r) (fun q => by rw [q]; decide)⟩
      clear hr rb rl rg h1 h2 h4 h5 xr
      by_cases x9 : x = 9
      · subst x9
        go_wp2_with fail
        go_roundw
        case rel => exact ⟨k + 1, K.set k 32, by omega, by go_num, H3⟩
        case measure => simp [intOf]; omega
      · have x9' : (x == 9) = false := by simpa using x9
        go_wp2_with fail
        go_roundw
        case rel => exact ⟨k + 1, K, by omega, by go_num, H0⟩
        case measure => simp [intOf]; omega
    · have ek : k = n := by omega
      subst ek
      have q5 : ¬ (k : Int) < (k : Int) := by omega
      obtain ⟨rr, rb, rl, rg⟩ := hr.out
      obtain ⟨A3, c3, e3, hc3, SS⟩ := rr.sees
      rw [rl] at e3
      simp only [Value.slice.injEq] at e3
      obtain ⟨rfl, _, rfl⟩ := e3
      have TX := Lib.hid (d_Text A2 c2 K (by have := LM.out; have := HN.out; omega) rg wr SS)
      rw [rl] at TX
      have RB := Lib.hid rb
      have KL := Lib.hid (show K.length ≤ s.size by have := LM.out; have := HN.out; omega)
      clear hr rr SS rb rl rg
      go_wp2_with fail
      refine TX.out.mono ?_; rintro e w4 ⟨rfl, b4⟩
      obtain ⟨T, hT⟩ : ∃ T, T = barr (textI K) := ⟨_, rfl⟩
      have TS : T.size ≤ 4 * s.size := by
        rw [hT, barr_size]
        have := textI_len K
        have := KL.out
        omega
      have SPL := splitB_len T
      have SG : Hid (∀ e ∈ splitB T, e.2 ≠ 0 → ∃ c, GoodC c ∧ e = (barr (textI c), wideC c)) := Lib.hid (by rw [hT]; exact split_good K)
      rw [← hT]
      have B4 := Lib.hid (RB.out.trans (b4.mono RB.out.size))
      have SP := Lib.hid (d_Split T (by omega) w4)
      have BND := Lib.hid (show (splitB T).length ≤ 4 * s.size by omega)
      clear TX b4 RB hT SPL TS
      go_wp2_with fail
      refine SP.out.mono ?_; rintro e w5 ⟨v5, rfl, o5, b5⟩
      have B5 := B4.out.trans (b5.mono B4.out.size)
      have o5' : w5.ownsRow w.heap.size 78 2 v5 (splitB T).length (cls (splitB T)) := own_low o5 B4.out.size
      have DC := Lib.hid (d_DelC (splitB T) (by have := BND.out; omega) w w5 v5 B5 (RowC.of_own o5'))
      clear SP o5 b5 B4 B5 o5'
      go_wp2_with fail
      refine DC.out.mono ?_; rintro e w6 ⟨v6, L, rfl, r6, l6, m6, b6⟩
      obtain ⟨A6, c6, e6, hc6, S6⟩ := r6.sees
      subst e6
      have FIN : Hid (L.length ≤ c6 ∧ Sees w6 w6.heap.size A6 (cls L) ∧ L.length ≤ 4 * s.size ∧ (∀ p ∈ L, p.1 ≠ ⟨#[10]⟩ → ∃ c, GoodC c ∧ p = (barr (textI c), wideC c)) ∧ Below w.heap.size w w6) := Lib.hid ⟨hc6, S6, by have := BND.out; omega, (fun p m ne => by
        obtain ⟨m1, m2⟩ := m6 p m
        refine SG.out p m1 (fun z => ?_)
        unfold delC at m2
        rw [decide_eq_true z, decide_eq_true ne] at m2
        cases m2), b6⟩
      clear DC r6 l6 m6 b6 hc6 S6
      go_wp2_with fail
      go_ret
      exact ⟨A6, c6, L, rfl, FIN.out⟩
end
end Go.Proofs.YtkllilehdpdbdaaGreatDoor
