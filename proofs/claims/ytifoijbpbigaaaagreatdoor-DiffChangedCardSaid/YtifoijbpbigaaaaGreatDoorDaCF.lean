/- What lies below tapes (kept of earlier texts: RaN, DfF, Rows2, StyS, Pair, StyM, StyQr, StyQ). -/
import Derived.Test.YtifoijbpbigaaaaGreatDoorDaCE
import Derived.Lib.AppendIntMem
import Derived.Laws.AppendOwnNone
import Derived.Maps.AppendAt
import Derived.Deep.DeepCutAuto
set_option linter.unusedVariables false
set_option linter.unusedSimpArgs false
namespace Go.Proofs.YtifoijbpbigaaaaGreatDoor
section
open Go Go.RowKit Go.Sort
section
set_option maxHeartbeats 16000000 in
set_option maxRecDepth 100000 in
theorem kH (s : Scr) (A : Option Addr) (c : Nat) (hcp : s.cells.length <= c) (hA : A = none -> c = 0) (hl : s.cells.length <= 1000000000000) (ho : ∀ x ∈ s.cells, okR x) (w : World) (S : Sees w w.heap.size A (zc s.cells)) :
  Calls Tryz.prog 21 #[scrV s A c] w fun e w' => e = .returned (.bool (zh s)) /\ Below w.heap.size w w' := by
 have R1 := Xk (Zw s)
 have R2 := Xk (Zx s)
 have R3 := Xk (Zy s)
 have R4 := Xk (Zz s)
 have ROW : Hid (∀ k, zP s k = (s.cells.drop (k * s.w.toNat)).take s.w.toNat) := Xk (fun _ => rfl)
 have CU : Hid (qK s = if s.shown = true then decide (0 <= s.x) && decide (s.x < s.w) && decide (0 <= s.y) && decide (s.y < s.h) else decide (s.x = 0) && decide (s.y = 0)) := Xk rfl
 have HO := Xk ho
 have HS := Xk S
 have HAN := Xk hA
 generalize zh s = r at *
 generalize qK s = cu at *
 simp only [scrV]
 obtain ⟨N, hN⟩ : ∃ N, N = s.cells.length := ⟨_, rfl⟩
 rw [<- hN] at hcp hl R2 R4 ⊢
 have HN := Xk hN
 clear ho S hA hN
 cases hs : qo s.w s.h with
 | false =>
  have R := Xk (R1.out hs)
  have SZ := Xk (ZD s.w s.h)
  rw [hs] at SZ
  clear hs
  obtain ⟨Q, hQ⟩ : ∃ Q, Q = w.alloc (.cells #[.int .i64 s.w, .int .i64 s.h, .slice A N c, .int .i64 s.x, .int .i64 s.y, .bool s.shown] 24) := ⟨_, rfl⟩
  have BQ := Xk (show Below w.heap.size w Q by rw [hQ]; exact (Below.refl _ w).alloc Xm _)
  have q0 : Q.cell? ⟨w.heap.size, 0, none⟩ = some (.int .i64 s.w) := by rw [hQ]; simp [go_sem]
  have q1 : Q.cell? ⟨w.heap.size, 1, none⟩ = some (.int .i64 s.h) := by rw [hQ]; simp [go_sem]
  have HQ := Xk hQ
  clear hQ
  go_enter Tryz.func21, Tryz.ntmps21
  go_upto_region 1 with fail
  rw [<- HQ.out]
  go_wp2_with fail
  refine (SZ.out _).mono ?_; rintro e w1 ⟨rfl, hw⟩
  rw [hw]
  clear hw
  go_wp2_with fail
  go_ret
  exact ⟨zu (by rw [R.out]), BQ.out⟩
 | true =>
  have SZ := Xk (ZD s.w s.h)
  have R5 := Xk (R4.out hs)
  clear R4
  obtain ⟨w0, w1, h0, h1, wh⟩ := qS hs
  rw [hs] at SZ
  obtain ⟨W, hW⟩ : ∃ W : Nat, s.w = (W : Int) := ⟨s.w.toNat, by omega⟩
  obtain ⟨H, hH⟩ : ∃ H : Nat, s.h = (H : Int) := ⟨s.h.toNat, by omega⟩
  rw [hW, hH] at R2 R5 SZ CU wh ⊢
  rw [hH] at R3
  rw [Int.toNat_natCast] at R3 R5
  rw [hW] at ROW w0 w1
  rw [hH] at h0 h1
  rw [Int.toNat_natCast] at ROW
  obtain ⟨M, hM⟩ : ∃ M : Nat, M = W * H := ⟨_, rfl⟩
  have eM : (W : Int) * (H : Int) = (M : Int) := by rw [hM, Int.natCast_mul]
  have HM := Xk hM
  rw [eM] at R2 R5 wh
  clear hs hW hH hM
  obtain ⟨Q, hQ⟩ : ∃ Q, Q = w.alloc (.cells #[.int .i64 (W : Int), .int .i64 (H : Int), .slice A N c, .int .i64 s.x, .int .i64 s.y, .bool s.shown] 24) := ⟨_, rfl⟩
  have BQ := Xk (show Below w.heap.size w Q by rw [hQ]; exact (Below.refl _ w).alloc Xm _)
  have q0 : Q.cell? ⟨w.heap.size, 0, none⟩ = some (.int .i64 (W : Int)) := by rw [hQ]; simp [go_sem]
  have q1 : Q.cell? ⟨w.heap.size, 1, none⟩ = some (.int .i64 (H : Int)) := by rw [hQ]; simp [go_sem]
  have q2 : Q.cell? ⟨w.heap.size, 2, none⟩ = some (.slice A N c) := by rw [hQ]; simp [go_sem]
  have q3 : Q.cell? ⟨w.heap.size, 3, none⟩ = some (.int .i64 s.x) := by rw [hQ]; simp [go_sem]
  have q4 : Q.cell? ⟨w.heap.size, 4, none⟩ = some (.int .i64 s.y) := by rw [hQ]; simp [go_sem]
  have q5 : Q.cell? ⟨w.heap.size, 5, none⟩ = some (.bool s.shown) := by rw [hQ]; simp [go_sem]
  have HQ := Xk hQ
  by_cases hn : (N : Int) = (M : Int)
  ·have R6 := Xk (R5.out hn)
   clear R5
   have nm : N = M := by omega
   subst nm
   clear hQ
   go_enter Tryz.func21, Tryz.ntmps21
   go_upto_region 1 with fail
   rw [<- HQ.out]
   go_wp2_with fail
   refine (SZ.out _).mono ?_; rintro e w1 ⟨rfl, hw⟩
   rw [hw]
   clear hw HQ
   go_wp2_with fail
   go_loopw [3] (fun i wr => ∃ k : Nat, k <= H /\ i = .int .i64 k /\ Hid (∀ y, y < k -> rowR (zP s y) = true) /\ Hid (Below Q.heap.size Q wr)) (fun i _ => H - (intOf i).toNat)
   case atStart => exact ⟨0, Nat.zero_le _, rfl, Xk (fun y h => by omega), Xk (Below.refl _ _)⟩
   case round =>
    obtain ⟨k, hk, rfl, hr, hbq⟩ := hrel
    have hqs : w.heap.size < Q.heap.size := block_lt_of_cell q0
    have z0 : wr.cell? ⟨w.heap.size, 0, none⟩ = some (.int .i64 (W : Int)) := (hbq.out.cell (p := ⟨w.heap.size, 0, none⟩) hqs).trans q0
    have z2 : wr.cell? ⟨w.heap.size, 2, none⟩ = some (.slice A N c) := (hbq.out.cell (p := ⟨w.heap.size, 2, none⟩) hqs).trans q2
    have z3 : wr.cell? ⟨w.heap.size, 3, none⟩ = some (.int .i64 s.x) := (hbq.out.cell (p := ⟨w.heap.size, 3, none⟩) hqs).trans q3
    have z4 : wr.cell? ⟨w.heap.size, 4, none⟩ = some (.int .i64 s.y) := (hbq.out.cell (p := ⟨w.heap.size, 4, none⟩) hqs).trans q4
    have z5 : wr.cell? ⟨w.heap.size, 5, none⟩ = some (.bool s.shown) := (hbq.out.cell (p := ⟨w.heap.size, 5, none⟩) hqs).trans q5
    have z1 : wr.cell? ⟨w.heap.size, 1, none⟩ = some (.int .i64 (H : Int)) := (hbq.out.cell (p := ⟨w.heap.size, 1, none⟩) hqs).trans q1
    have Z5 := Xk q5
    clear q0 q1 q2 q3 q4 q5
    by_cases lt : k < H
    ·obtain ⟨P, hP⟩ : ∃ P : Nat, P = k * W := ⟨_, rfl⟩
     have eP : (k : Int) * (W : Int) = (P : Int) := by rw [hP, Int.natCast_mul]
     have le : P + W <= N := by
      rw [hP, HM.out, Nat.mul_comm W H, <- Nat.succ_mul]
      exact Nat.mul_le_mul_right _ lt
     have ROWK : zP s k = (s.cells.drop P).take W := by rw [ROW.out, hP]
     have wPW : IntKind.i64.wrap ((P : Int) + (W : Int)) = (P : Int) + (W : Int) := by rw [IntKind.wrap_i64]; omega
     have hs1 : ∀ X, (Instr.slice 22 (.slice A N c) (some (.int .i64 (P : Int))) (some (.int .i64 ((P : Int) + (W : Int)))) none).run Tryz.prog X = .ok (.slice (cutA A c P) W (c - P)) X := fun X => by
      rw [run_slice_lh X 22 A N c (by kernel_rfl) .i64 .i64 (P : Int) ((P : Int) + (W : Int)) (by omega) (by omega) (by omega)]
      have sz : (sizeOf (Tryz.prog.elem 22)).run Tryz.prog X = .ok 5 X := by kernel_rfl
      rw [sz]
      rw [show (P : Int).toNat = P from Int.toNat_natCast P, show ((P : Int) + (W : Int)).toNat = P + W by omega]
      show Result.ok (sliced A P (P + W) c 5) X = _
      have e : P + W - P = W := by omega
      unfold sliced
      rw [e]
      rfl
     have wP : IntKind.i64.wrap (P : Int) = (P : Int) := by rw [IntKind.wrap_i64]; omega
     have SW : Sees wr wr.heap.size (cutA A c P) (zc ((s.cells.drop P).take W)) := by
      rw [xJ]
      refine Sees.takeV _ ?_
      refine ZC c P ?_ (by rw [<- HN.out]; exact hcp)
      exact (HS.out.below (BQ.out.trans (hbq.out.mono BQ.out.size)) Xm).more (by have := hbq.out.size; have := BQ.out.size; omega)
     have lw : W = ((s.cells.drop P).take W).length := by rw [List.length_take, List.length_drop, <- HN.out]; omega
     have WH := Xk (show Calls Tryz.prog 36 #[.slice (cutA A c P) W (c - P)] wr fun e w' => e = .returned (.bool (rowR (zP s k))) /\ Below wr.heap.size wr w' from by
      rw [ROWK]
      have q := ref_Row (cutA A c P) (c - P) ((s.cells.drop P).take W) (by rw [<- lw]; omega) (fun x hx => HO.out x (List.mem_of_mem_drop (List.mem_of_mem_take hx))) wr SW
      rw [<- lw] at q
      exact q)
     clear hP SW lw ROWK
     generalize cutA A c P = A2 at *
     go_wp2_with fail
     refine WH.out.mono ?_; rintro e W5 ⟨rfl, hb5⟩
     have B5 := Xk (hbq.out.trans (hb5.mono hbq.out.size))
     have RR := Xk (R3.out k lt)
     have RN := Xk hr.out
     clear hb5 WH
     cases hq : rowR (zP s k) with
     | true =>
      have RQ : Hid (∀ y, y < k + 1 -> rowR (zP s y) = true) := Xk (fun y hy => by
       by_cases e : y = k
       ·rw [e]; exact hq
       ·exact RN.out y (by omega))
      clear hq
      go_wp2_with fail
      go_roundw
      case rel => exact ⟨k + 1, by omega, by go_num, RQ, B5⟩
      case measure => simp [intOf]; omega
     | false =>
      have R := Xk (RR.out hq)
      clear hq
      go_wp2_with fail
      go_ret
      exact ⟨zu (by rw [R.out]), BQ.out.trans (B5.out.mono BQ.out.size)⟩
    ·have e : k = H := by omega
     subst e
     have R := Xk (R6.out hr.out)
     have BB := Xk (BQ.out.trans (hbq.out.mono BQ.out.size))
     clear hr hbq
     generalize s.shown = sn at *
     generalize s.x = X at *
     generalize s.y = Y at *
     cases sn with
     | false =>
      by_cases x0 : X = 0
      ·by_cases y0 : Y = 0
       ·have e1 : (X == 0) = true := beq_iff_eq.2 x0
        have e2 : (Y == 0) = true := beq_iff_eq.2 y0
        have RC : Hid (r = true) := Xk (by rw [R.out, CU.out, x0, y0]; rfl)
        clear x0 y0
        go_wp2_with fail
        go_ret
        exact ⟨zu (by rw [RC.out]), BB.out⟩
       ·have e1 : (X == 0) = true := beq_iff_eq.2 x0
        have e2 : (Y == 0) = false := beq_eq_false_iff_ne.2 y0
        have RC : Hid (r = false) := Xk (by rw [R.out, CU.out, decide_eq_false y0]; simp)
        clear x0 y0
        go_wp2_with fail
        go_ret
        exact ⟨zu (by rw [RC.out]), BB.out⟩
      ·have e1 : (X == 0) = false := beq_eq_false_iff_ne.2 x0
       have RC : Hid (r = false) := Xk (by rw [R.out, CU.out, decide_eq_false x0]; simp)
       clear x0
       go_wp2_with fail
       go_ret
       exact ⟨zu (by rw [RC.out]), BB.out⟩
     | true =>
      have CU2 : Hid (r = (decide (0 <= X) && decide (X < (W : Int)) && decide (0 <= Y) && decide (Y < (k : Int)))) := Xk (by rw [R.out, CU.out, if_pos rfl])
      by_cases x0 : 0 <= X
      ·by_cases x1 : X < (W : Int)
       ·by_cases y0 : 0 <= Y
        ·by_cases y1 : Y < (k : Int)
         ·have RC : Hid (r = true) := Xk (by rw [CU2.out, decide_eq_true x0, decide_eq_true x1, decide_eq_true y0, decide_eq_true y1]; rfl)
          go_wp2_with fail
          go_ret
          exact ⟨zu (by rw [RC.out]), BB.out⟩
         ·have RC : Hid (r = false) := Xk (by rw [CU2.out, decide_eq_false y1]; simp)
          go_wp2_with fail
          go_ret
          exact ⟨zu (by rw [RC.out]), BB.out⟩
        ·have RC : Hid (r = false) := Xk (by rw [CU2.out, decide_eq_false y0]; simp)
         go_wp2_with fail
         go_ret
         exact ⟨zu (by rw [RC.out]), BB.out⟩
       ·have RC : Hid (r = false) := Xk (by rw [CU2.out, decide_eq_false x1]; simp)
        go_wp2_with fail
        go_ret
        exact ⟨zu (by rw [RC.out]), BB.out⟩
      ·have RC : Hid (r = false) := Xk (by rw [CU2.out, decide_eq_false x0]; simp)
       go_wp2_with fail
       go_ret
       exact ⟨zu (by rw [RC.out]), BB.out⟩
  ·have R := Xk (R2.out hn)
   clear hQ
   go_enter Tryz.func21, Tryz.ntmps21
   go_upto_region 1 with fail
   rw [<- HQ.out]
   go_wp2_with fail
   refine (SZ.out _).mono ?_; rintro e w1 ⟨rfl, hw⟩
   rw [hw]
   clear hw HQ
   have hn' : ((N : Int) == (M : Int)) = false := by simpa using hn
   go_wp2_with fail
   go_ret
   exact ⟨zu (by rw [R.out]), BQ.out⟩
end
end
section
open Go.RowKit
def zB : ByteArray := ⟨#[]⟩
def itB (n : Int) : ByteArray := ⟨(Lib.itoa n).toArray⟩
def semi1 (s : ByteArray) (n : Int) : ByteArray := (if s = zB then s else s ++ ⟨#[59]⟩) ++ itB n
def qc (l : List Int) : ByteArray := l.foldl semi1 zB
def qw (f t : Sty) : ByteArray := if qc (qn f t) = zB then zB else (⟨#[27, 91]⟩ ++ qc (qn f t)) ++ ⟨#[109]⟩
def qM (x y : Int) : ByteArray := (((⟨#[27, 91]⟩ ++ itB (y + 1)) ++ ⟨#[59]⟩) ++ itB (x + 1)) ++ ⟨#[72]⟩
def qU : ByteArray := ⟨#[27, 91, 48, 109, 27, 91, 63, 55, 108, 27, 91, 50, 74, 27, 91, 72, 27, 91, 63, 50, 53, 108]⟩
def jV : ByteArray := ⟨#[27, 91, 63, 50, 53, 104]⟩
def xh : ByteArray := ⟨#[27, 91, 63, 50, 53, 108]⟩
def jC (a b : ByteArray) : Bool := decide (zx (a ++ b) ≠ zx a ++ zx b)
def jD : Cel := ⟨⟨#[32]⟩, 1, z8⟩
structure Tel where
 place : Bool
 x : Int
 y : Int
 st : Sty
 text : ByteArray
 out : ByteArray
def seqT (t : Tel) (b : ByteArray) : Tel := ⟨t.place, t.x, t.y, t.st, zB, t.out ++ b⟩
def jE (t : Tel) (x y : Int) : Tel := ⟨true, x, y, t.st, zB, t.out ++ qM x y⟩
def goB (t : Tel) (x y : Int) (s : Sty) (tx : ByteArray) : Bool :=
 !t.place || decide (t.x ≠ x) || decide (t.y ≠ y) || (decide (qw t.st s = zB) && decide (t.text ≠ zB) && jC t.text tx)
def qV (t : Tel) (x y : Int) (s : Sty) (tx : ByteArray) : Tel := if goB t x y s tx = true then jE t x y else t
def qZ (t : Tel) (u : ByteArray) : Tel := if u = zB then t else seqT t u
def put1 (t : Tel) (W : Int) (n : Nat) (c : Cel) : Tel := ⟨decide (t.x + n < W), t.x + n, t.y, c.st, c.text, t.out ++ c.text⟩
def qD (W : Int) (t : Tel) (i n : Nat) (c : Cel) : Tel := put1 (qZ (qV t ((i : Int) % W) ((i : Int) / W) c.st c.text) (qw t.st c.st)) W n c
def celD : Cel := ⟨⟨#[]⟩, 0, z8⟩
def zZ (W : Int) (L : List Cel) (t : Tel) (l : List (Nat × Nat)) : Tel := l.foldl (fun t p => qD W t p.1 p.2 (L.getD p.1 celD)) t
theorem Js (W : Int) (L : List Cel) (t : Tel) (l : List (Nat × Nat)) (i n : Nat) : zZ W L t (l ++ [(i, n)]) = qD W (zZ W L t l) i n (L.getD i celD) := by
 unfold zZ
 rw [List.foldl_append]
 rfl
structure Wri where
 depth : Int
 told : Bool
 last : Scr
 tel : Tel
 shown : Bool
def newB (w : Wri) (r : Scr) : Bool := !w.told || decide (w.last.w ≠ r.w) || decide (w.last.h ≠ r.h)
def zN (w : Wri) (anew : Bool) : Tel := if anew = true then ⟨true, 0, 0, z8, zB, qU⟩ else ⟨w.tel.place, w.tel.x, w.tel.y, w.tel.st, w.tel.text, zB⟩
def qE (w : Wri) (anew : Bool) (r : Scr) : List Cel := if anew = true then List.replicate r.cells.length jD else w.last.cells
def ja (t : Tel) (r : Scr) : Tel := if (r.shown && (!t.place || decide (t.x ≠ r.x) || decide (t.y ≠ r.y))) = true then jE t r.x r.y else t
def show1 (t : Tel) (was now : Bool) : Tel := if (now && !was) = true then seqT t jV else if (!now && was) = true then seqT t xh else t
def qd (w : Wri) (r : Scr) : Tel :=
 show1 (ja (zZ r.w r.cells (zN w (newB w r)) (zd 0 (qE w (newB w r) r) r.cells)) r) (w.shown && !newB w r) r.shown
def xL (w : Wri) (s : Scr) : Wri := ⟨w.depth, true, redS s w.depth, qd w (redS s w.depth), s.shown⟩
end
section
open Go.RowKit
structure Rw where
 lo : Nat
 hi : Nat
 T : TypeId
 sz : Nat
 v : Value
 n : Nat
 xs : List Value
structure Row1 (w : World) (r : Rw) : Prop where
 own : w.ownsRow r.lo r.T r.sz r.v r.n r.xs
 top : ∀ g, r.v.ownBlock = some g -> g < r.hi
structure Rows (W0 w : World) (rs : List Rw) : Prop where
 all : ∀ r ∈ rs, Row1 w r /\ W0.heap.size <= r.lo /\ r.hi <= w.heap.size
 ord : rs.Pairwise fun r s => r.hi <= s.lo
 bel : Below W0.heap.size W0 w
end
section
open Go.RowKit Go.Sort
def ints (l : List Int) : List Value := l.map (.int .i64)
theorem xi (a b : List Int) : ints (a ++ b) = ints a ++ ints b := by simp [ints]
theorem xM (a : List Int) : (ints a).length = a.length := by simp [ints]
def sumD (l : List Int) : Int := (l.map digN).sum
theorem Jt (l : List Int) (x : Int) : sumD (l ++ [x]) = sumD l + digN x := by unfold sumD; simp
theorem Ju (l : List Int) : 0 <= sumD l /\ sumD l <= 3 * l.length := by
 unfold sumD
 induction l with
 | nil => simp
 | cons x r ih =>
  rw [List.map_cons, List.sum_cons, List.length_cons]
  have := vR x
  have : digN x <= 3 := by unfold digN; split; decide; split <;> decide
  omega
set_option maxHeartbeats 4000000 in
set_option maxRecDepth 100000 in
theorem ZE (A : Option Addr) (c : Nat) (xs : List Int) (hx : ∀ x ∈ xs, 0 <= x /\ x < 1000) (hm : xs.length <= 1000) (w : World) (h : Sees w w.heap.size A (ints xs)) :
  Calls Tryz.prog 84 #[.slice A xs.length c] w fun e w' => e = .returned (.int .i64 (qq xs)) /\ w = w' := by
 have F := Xk (fun (k : Nat) (hk : k < xs.length) => h.at (k := k) (by simpa [ints] using hk))
 have HX := Xk hx
 obtain ⟨n, hn⟩ : ∃ n, n = xs.length := ⟨_, rfl⟩
 have HN := Xk hn
 rw [<- hn] at hm ⊢
 have SB := Xk (fun k => Ju (xs.take k))
 clear h hx hn
 go_enter Tryz.func84, Tryz.ntmps84
 go_wp2_with fail
 go_loop [3, 11] (fun s i => ∃ (k : Nat) (z : Int), k <= n /\ i = .int .i64 k /\ s = .int .i64 z /\ Hid (z = (n : Int) - 1 + sumD (xs.take k))) (fun _ i => n - (intOf i).toNat)
 case atStart => exact ⟨0, _, by omega, rfl, rfl, Xk (by simp [sumD])⟩
 case round =>
  obtain ⟨k, z, hk, rfl, rfl, hz⟩ := hrel
  have zb : -1 <= z /\ z <= 4000 := by
   have := SB.out k
   have l := List.length_take_le k xs
   have e := hz.out
   have := HN.out
   omega
  obtain ⟨zb1, zb2⟩ := zb
  by_cases lt : k < n
  ·have kl : k < xs.length := by have := HN.out; omega
   obtain ⟨ad, rfl, hb, hc0⟩ := F.out k kl
   have NX : Hid (sumD (xs.take (k + 1)) = sumD (xs.take k) + digN xs[k]) := Xk (by rw [List.take_succ_eq_append_getElem kl, Jt])
   obtain ⟨x0, x1⟩ := HX.out xs[k] (List.getElem_mem _)
   have hc : w.cell? (ad.add k) = some (.int .i64 xs[k]) := by rw [hc0]; simp [ints]
   clear hc0
   generalize xs[k] = x at *
   by_cases t1 : x < 10
   ·have D : Hid (digN x = 1) := Xk (by unfold digN; rw [if_pos t1])
    go_wp2_with fail
    go_rounds 1
    go_round
    case rel => exact ⟨k + 1, _, by omega, by go_num, rfl, Xk (by rw [NX.out, D.out, hz.out]; omega)⟩
    case measure => simp [intOf]; omega
   by_cases t2 : x < 100
   ·have D : Hid (digN x = 2) := Xk (by unfold digN; rw [if_neg t1, if_pos t2])
    have e1 : x / 10 < 10 := by omega
    have e2 : 0 <= x / 10 := by omega
    go_wp2_with fail
    go_rounds 2
    go_round
    case rel => exact ⟨k + 1, _, by omega, by go_num, rfl, Xk (by rw [NX.out, D.out, hz.out]; omega)⟩
    case measure => simp [intOf]; omega
   ·have D : Hid (digN x = 3) := Xk (by unfold digN; rw [if_neg t1, if_neg t2])
    have e1 : 10 <= x / 10 := by omega
    have e3 : x / 10 / 10 < 10 := by omega
    have e4 : 0 <= x / 10 / 10 := by omega
    go_wp2_with fail
    go_rounds 3
    go_round
    case rel => exact ⟨k + 1, _, by omega, by go_num, rfl, Xk (by rw [NX.out, D.out, hz.out]; omega)⟩
    case measure => simp [intOf]; omega
  ·have e : k = n := by omega
   subst e
   have E : Hid (z = qq xs) := Xk (by rw [hz.out, HN.out, List.take_length]; unfold qq sumD; omega)
   go_wp2_with fail
   go_ret
   exact ⟨zC E.out, rfl⟩
theorem jW : (Tryz.prog.info? 3).map (fun i => (i.zero, i.size, i.bytes)) = some (some (.int .i64 0), 1, 8) := by kernel_rfl
theorem newsL (w : World) (l : List Value) (T : TypeId) : ∀ (j : Nat) (u : Value), l[j]? = some u -> (w.alloc (.cells l.toArray T)).cell? ((⟨w.heap.size, 0, none⟩ : Addr).add j) = some u := by
 intro j u h
 have hj : j < l.length := (List.getElem?_eq_some_iff.1 h).1
 have e : ((⟨w.heap.size, 0, none⟩ : Addr).add j) = ⟨w.heap.size, j, none⟩ := by
  unfold Addr.add
  split
  ·rename_i z; rw [z]
  ·simp
 rw [e]
 simp [go_sem, h]
theorem kI {w w' : World} {row : Option Nat} {o : Obj} (h : (w.alloc o).grownBy w' row) : w.grownBy w' row :=
 ⟨h.os, h.tape, h.output, Nat.le_trans (by simp) h.size, fun i hi hr => (h.block i (by simp; omega) hr).trans (((Below.refl w.heap.size w).alloc Xm o).block i hi)⟩
def AppRet (lo : Nat) (w : World) (v : Value) (ys : List Int) (e : Ending) (w' : World) : Prop :=
 ∃ v', e = .returned v' /\ w'.ownsRow lo 3 1 v' ys.length (ints ys) /\ w.grownBy w' v.ownBlock /\ (v'.ownBlock = v.ownBlock \/ ∃ g, v'.ownBlock = some g /\ w.heap.size <= g)
theorem ZF (n : Int) : bits .and .i64 n 255 = n % 256 := by
 have h : (BitVec.ofInt 64 255).toNat = 2 ^ 8 - 1 := by decide
 have k : (BitVec.ofInt 64 n &&& BitVec.ofInt 64 255).toNat = (n % ((2 ^ 64 : Nat) : Int)).toNat % 2 ^ 8 := by
  rw [BitVec.toNat_and, BitVec.toNat_ofInt, h, Nat.and_two_pow_sub_one_eq_mod]
 show IntKind.i64.wrap ((BitVec.ofInt 64 n &&& BitVec.ofInt 64 255).toNat : Nat) = n % 256
 rw [k, IntKind.wrap_i64]
 omega
set_option maxHeartbeats 4000000 in
set_option maxRecDepth 100000 in
theorem xN (lo : Nat) (v : Value) (xs : List Int) (c base : Int) (hc : qu c) (hb0 : 0 <= base) (hb1 : base <= 1000) (hm : xs.length <= 1000) (w : World) (hlo : lo <= w.heap.size) (h : w.ownsRow lo 3 1 v xs.length (ints xs)) :
  Calls Tryz.prog 83 #[v, .int .i32 c, .int .i64 base] w (AppRet lo w v (xs ++ colL c base)) := by
 obtain ⟨i0, hi0, hz0, hz1, hz2⟩ := info_parts jW
 have O1 := Xk (fun (l : List Int) (hl : l.length <= 5) => show ∀ (v' : Value) (w3 : World), w3.ownsRow lo 3 1 v' (xs.length + l.length) (ints xs ++ ints l) -> (w.alloc (.cells (ints l).toArray 3)).grownBy w3 v.ownBlock -> (v'.ownBlock = v.ownBlock \/ v'.ownBlock = some (w.alloc (.cells (ints l).toArray 3)).heap.size) -> AppRet lo w v (xs ++ l) (.returned v') w3 from
  fun v' w3 a b d => ⟨v', rfl, by rw [List.length_append, xi]; exact a, kI b, d.imp id fun e => ⟨_, e, by simp⟩⟩)
 have H := Xk (fun (l : List Int) => h.alloc (.cells (ints l).toArray 3))
 have NL := Xk (fun (l : List Int) => newsL w (ints l) 3)
 obtain ⟨n, hn⟩ : ∃ n, n = xs.length := ⟨_, rfl⟩
 have HN := Xk hn
 have H2 : ∀ k, k <= 5 -> xs.length + k <= maxLen /\ (xs.length + k) * 8 <= 140737488355328 := fun k hk => by unfold maxLen; omega
 have H2 := Xk H2
 have H4 : ∀ l : List Int, lo <= (w.alloc (.cells (ints l).toArray 3)).heap.size := fun l => by simp; omega
 have H4 := Xk H4
 have H1 := Xk (fun (l : List Int) => show ∀ u ∈ ints l, u.oneCell' = true from fun u hu => by
  unfold ints at hu
  obtain ⟨x, _, rfl⟩ := List.mem_map.1 hu
  rfl)
 clear h hn hm hlo
 rcases hc with rfl | ⟨c0, c1⟩ | ⟨c0, c1⟩
 ·have E : Hid (colL 0 base = [base + 9]) := Xk rfl
  go_enter Tryz.func83, Tryz.ntmps83
  go_wp2_with (at_builtin; refine wpList_append_own_at _ rfl (.tmp 11) (.tmp 14) 38 rfl lo 3 i0 (.int .i64 0) 1 8 Tryz.underlying38 hi0 hz0 hz1 hz2 rfl (by decide) v xs.length (ints xs) rfl (H.out [base + 9]) ⟨w.heap.size, 0, none⟩ 1 1 (ints [base + 9]) rfl rfl (NL.out [base + 9]) (H1.out _) (H2.out 1 (by decide)).1 (H2.out 1 (by decide)).2 (H4.out [base + 9]) ?_; intro v' w3 hown3 hg3 _ hat3)
  have R := O1.out [base + 9] (by simp) v' w3 hown3 hg3 hat3
  have R := Xk R
  clear hown3 hg3 hat3
  go_wp2_with fail
  go_ret
  rw [E.out]
  exact R.out
 ·by_cases t1 : 272 <= c
  ·have E : Hid (colL c base = [base + 8, 5, c - 256]) := Xk (by unfold colL; rw [if_neg (by omega), if_neg (by omega), if_pos t1])
   go_enter Tryz.func83, Tryz.ntmps83
   go_wp2_with (at_builtin; refine wpList_append_own_at _ rfl (.tmp 37) (.tmp 43) 38 rfl lo 3 i0 (.int .i64 0) 1 8 Tryz.underlying38 hi0 hz0 hz1 hz2 rfl (by decide) v xs.length (ints xs) rfl (H.out [base + 8, 5, c - 256]) ⟨w.heap.size, 0, none⟩ 3 3 (ints [base + 8, 5, c - 256]) rfl rfl (NL.out [base + 8, 5, c - 256]) (H1.out _) (H2.out 3 (by decide)).1 (H2.out 3 (by decide)).2 (H4.out [base + 8, 5, c - 256]) ?_; intro v' w3 hown3 hg3 _ hat3)
   have R := O1.out [base + 8, 5, c - 256] (by simp) v' w3 hown3 hg3 hat3
   have R := Xk R
   clear hown3 hg3 hat3
   go_wp2_with fail
   go_ret
   rw [E.out]
   exact R.out
  by_cases t2 : 264 <= c
  ·have E : Hid (colL c base = [base + 60 + (c - 256 - 8)]) := Xk (by unfold colL; rw [if_neg (by omega), if_neg (by omega), if_neg t1, if_pos t2, show c - 256 - 8 = c - 264 by omega])
   go_enter Tryz.func83, Tryz.ntmps83
   go_wp2_with (at_builtin; refine wpList_append_own_at _ rfl (.tmp 48) (.tmp 56) 38 rfl lo 3 i0 (.int .i64 0) 1 8 Tryz.underlying38 hi0 hz0 hz1 hz2 rfl (by decide) v xs.length (ints xs) rfl (H.out [base + 60 + (c - 256 - 8)]) ⟨w.heap.size, 0, none⟩ 1 1 (ints [base + 60 + (c - 256 - 8)]) rfl rfl (NL.out [base + 60 + (c - 256 - 8)]) (H1.out _) (H2.out 1 (by decide)).1 (H2.out 1 (by decide)).2 (H4.out [base + 60 + (c - 256 - 8)]) ?_; intro v' w3 hown3 hg3 _ hat3)
   have R := O1.out [base + 60 + (c - 256 - 8)] (by simp) v' w3 hown3 hg3 hat3
   have R := Xk R
   clear hown3 hg3 hat3
   go_wp2_with fail
   go_ret
   rw [E.out]
   exact R.out
  ·have E : Hid (colL c base = [base + (c - 256)]) := Xk (by unfold colL; rw [if_neg (by omega), if_neg (by omega), if_neg t1, if_neg t2])
   go_enter Tryz.func83, Tryz.ntmps83
   go_wp2_with (at_builtin; refine wpList_append_own_at _ rfl (.tmp 58) (.tmp 64) 38 rfl lo 3 i0 (.int .i64 0) 1 8 Tryz.underlying38 hi0 hz0 hz1 hz2 rfl (by decide) v xs.length (ints xs) rfl (H.out [base + (c - 256)]) ⟨w.heap.size, 0, none⟩ 1 1 (ints [base + (c - 256)]) rfl rfl (NL.out [base + (c - 256)]) (H1.out _) (H2.out 1 (by decide)).1 (H2.out 1 (by decide)).2 (H4.out [base + (c - 256)]) ?_; intro v' w3 hown3 hg3 _ hat3)
   have R := O1.out [base + (c - 256)] (by simp) v' w3 hown3 hg3 hat3
   have R := Xk R
   clear hown3 hg3 hat3
   go_wp2_with fail
   go_ret
   rw [E.out]
   exact R.out
 ·obtain ⟨N, hN⟩ : ∃ N, N = c - 16777216 := ⟨_, rfl⟩
  have E : Hid (colL c base = [base + 8, 2, N / 65536, N / 256 % 256, N % 256]) := Xk (by unfold colL; rw [if_neg (by omega), if_pos c0, <- hN])
  have n0 : 0 <= N := by omega
  have n1 : N < 16777216 := by omega
  have ec : c = N + 16777216 := by omega
  subst ec
  have en : N + 16777216 - 16777216 = N := by omega
  have b1 := ZF (N / 256)
  have b2 := ZF N
  clear hN
  go_enter Tryz.func83, Tryz.ntmps83
  go_wp2_with (at_builtin; refine wpList_append_own_at _ rfl (.tmp 22) (.tmp 32) 38 rfl lo 3 i0 (.int .i64 0) 1 8 Tryz.underlying38 hi0 hz0 hz1 hz2 rfl (by decide) v xs.length (ints xs) rfl (H.out [base + 8, 2, N / 65536, N / 256 % 256, N % 256]) ⟨w.heap.size, 0, none⟩ 5 5 (ints [base + 8, 2, N / 65536, N / 256 % 256, N % 256]) rfl rfl (NL.out [base + 8, 2, N / 65536, N / 256 % 256, N % 256]) (H1.out _) (H2.out 5 (by decide)).1 (H2.out 5 (by decide)).2 (H4.out [base + 8, 2, N / 65536, N / 256 % 256, N % 256]) ?_; intro v' w3 hown3 hg3 _ hat3)
  have R := O1.out [base + 8, 2, N / 65536, N / 256 % 256, N % 256] (by simp) v' w3 hown3 hg3 hat3
  have R := Xk R
  clear hown3 hg3 hat3
  go_wp2_with fail
  go_ret
  rw [E.out]
  exact R.out
end
section
open Go Go.RowKit Go.Sort
structure Pair (W0 w : World) (v1 v2 : Value) (l1 l2 : List Int) : Prop where
 o1 : w.ownsRow W0.heap.size 3 1 v1 l1.length (ints l1)
 o2 : w.ownsRow W0.heap.size 3 1 v2 l2.length (ints l2)
 ap : ∀ g, v1.ownBlock = some g -> v2.ownBlock ≠ some g
 be : Below W0.heap.size W0 w
theorem Pair.one {W0 w w' : World} {v1 v2 v1' : Value} {l1 l2 l1' : List Int} (h : Pair W0 w v1 v2 l1 l2) (ho : w'.ownsRow W0.heap.size 3 1 v1' l1'.length (ints l1')) (hg : w.grownBy w' v1.ownBlock)
  (ha : v1'.ownBlock = v1.ownBlock \/ ∃ g, v1'.ownBlock = some g /\ w.heap.size <= g) : Pair W0 w' v1' v2 l1' l2 where
 o1 := ho
 o2 := h.o2.kept hg (by
  cases e : v2.ownBlock with
  | none => exact Or.inl rfl
  | some g => exact Or.inr fun q => h.ap g q.symm e)
 ap := fun g hg1 hg2 => by
  rcases ha with a | ⟨g', a, b⟩
  ·exact h.ap g (a ▸ hg1) hg2
  ·rw [a] at hg1
   cases hg1
   have := (h.o2.lt g hg2).2
   omega
 be := h.be.grown hg h.be.size (fun k hk => (h.o1.lt k hk).1)
theorem Pair.two {W0 w w' : World} {v1 v2 v2' : Value} {l1 l2 l2' : List Int} (h : Pair W0 w v1 v2 l1 l2) (ho : w'.ownsRow W0.heap.size 3 1 v2' l2'.length (ints l2')) (hg : w.grownBy w' v2.ownBlock)
  (ha : v2'.ownBlock = v2.ownBlock \/ ∃ g, v2'.ownBlock = some g /\ w.heap.size <= g) : Pair W0 w' v1 v2' l1 l2' where
 o2 := ho
 o1 := h.o1.kept hg (by
  cases e : v1.ownBlock with
  | none => exact Or.inl rfl
  | some g => exact Or.inr fun q => h.ap g e q.symm)
 ap := fun g hg1 hg2 => by
  rcases ha with a | ⟨g', a, b⟩
  ·exact h.ap g hg1 (a ▸ hg2)
  ·rw [a] at hg2
   cases hg2
   have := (h.o1.lt g hg1).2
   omega
 be := h.be.grown hg h.be.size (fun k hk => (h.o2.lt k hk).1)
theorem xO {ops : Array Oper} {rest : List Oper} {o : Oper} {a : Act} {Q : Exit -> Act -> World -> Prop} {W0 w : World} {v1 v2 : Value} {l1 l2 : List Int} (P : Pair W0 w v1 v2 l1 l2) (s x : Operand) (n : Int) (hm : l1.length <= 1000) (hgd : o.guard = none)
  (ho : o.op = .call { callee := .builtin .append, args := #[s, x], argTypes := #[38, 38] }) (hs : a.eval s = v1) (hx : a.eval x = .slice (some ⟨w.heap.size, 0, none⟩) 1 1)
  (h : ∀ v' w', Hid (Pair W0 w' v' v2 (l1 ++ [n]) l2) -> wpList Tryz.prog ops Q rest (a.put o.dst v') w') : wpList Tryz.prog ops Q (o :: rest) a (w.alloc (.cells #[.int .i64 n] 3)) := by
 obtain ⟨i0, hi0, hz0, hz1, hz2⟩ := info_parts jW
 refine wpList_append_own_at _ hgd s x 38 ho W0.heap.size 3 i0 (.int .i64 0) 1 8 Tryz.underlying38 hi0 hz0 hz1 hz2 rfl (by decide) v1 l1.length (ints l1) hs (P.o1.alloc _) ⟨w.heap.size, 0, none⟩ 1 1 (ints [n]) hx rfl (newsL w (ints [n]) 3)
  (fun u hu => by simp [ints] at hu; subst hu; rfl) (by unfold maxLen; omega) (by omega) (by have := P.be.size; simp; omega) ?_
 intro v' w' h1 h2 _ h4
 refine h v' w' (Xk (P.one ?_ (kI h2) ?_))
 ·rw [List.length_append, xi]; exact h1
 ·rcases h4 with e | e
  ·exact Or.inl e
  ·exact Or.inr ⟨_, e, by simp⟩
theorem ZG {ops : Array Oper} {rest : List Oper} {o : Oper} {a : Act} {Q : Exit -> Act -> World -> Prop} {W0 w : World} {v1 v2 : Value} {l1 l2 : List Int} (P : Pair W0 w v1 v2 l1 l2) (s x : Operand) (n : Int) (hm : l2.length <= 1000) (hgd : o.guard = none)
  (ho : o.op = .call { callee := .builtin .append, args := #[s, x], argTypes := #[38, 38] }) (hs : a.eval s = v2) (hx : a.eval x = .slice (some ⟨w.heap.size, 0, none⟩) 1 1)
  (h : ∀ v' w', Hid (Pair W0 w' v1 v' l1 (l2 ++ [n])) -> wpList Tryz.prog ops Q rest (a.put o.dst v') w') : wpList Tryz.prog ops Q (o :: rest) a (w.alloc (.cells #[.int .i64 n] 3)) := by
 obtain ⟨i0, hi0, hz0, hz1, hz2⟩ := info_parts jW
 refine wpList_append_own_at _ hgd s x 38 ho W0.heap.size 3 i0 (.int .i64 0) 1 8 Tryz.underlying38 hi0 hz0 hz1 hz2 rfl (by decide) v2 l2.length (ints l2) hs (P.o2.alloc _) ⟨w.heap.size, 0, none⟩ 1 1 (ints [n]) hx rfl (newsL w (ints [n]) 3)
  (fun u hu => by simp [ints] at hu; subst hu; rfl) (by unfold maxLen; omega) (by omega) (by have := P.be.size; simp; omega) ?_
 intro v' w' h1 h2 _ h4
 refine h v' w' (Xk (P.two ?_ (kI h2) ?_))
 ·rw [List.length_append, xi]; exact h1
 ·rcases h4 with e | e
  ·exact Or.inl e
  ·exact Or.inr ⟨_, e, by simp⟩
def tkK (g : B8) (k : Nat) : List Int := ((List.range k).filter fun i => decide (2 <= i) && g.getLsbD i).map offN
def stK (g : B8) (k : Nat) : List Int := ((List.range k).filter fun i => g.getLsbD i).map onN
theorem tkK_next (g : B8) (k : Nat) (h : 2 <= k) : tkK g (k + 1) = if g.getLsbD k = true then tkK g k ++ [offN k] else tkK g k := by
 unfold tkK
 rw [List.range_succ, List.filter_append, List.map_append]
 cases e : g.getLsbD k
 ·simp [e]
 ·simp [e, h]
theorem ZH (g : B8) (k : Nat) : stK g (k + 1) = if g.getLsbD k = true then stK g k ++ [onN k] else stK g k := by
 unfold stK
 rw [List.range_succ, List.filter_append, List.map_append]
 cases e : g.getLsbD k
 ·simp [e]
 ·simp [e]
theorem ZI (g : B8) (k : Nat) : (tkK g k).length <= k := by unfold tkK; rw [List.length_map]; exact Nat.le_trans (List.length_filter_le _ _) (by simp)
theorem ZJ (g : B8) (k : Nat) : (stK g k).length <= k := by unfold stK; rw [List.length_map]; exact Nat.le_trans (List.length_filter_le _ _) (by simp)
theorem tkK_two (g : B8) : tkK g 2 = [] := by unfold tkK; simp [List.range_succ]
theorem ZK (g : B8) : tkK g 8 = jy g := rfl
theorem ZL (g : B8) : stK g 8 = setL g := rfl
end
section
open Go.RowKit Go.Sort
structure EnvS (w : World) : Prop where
 on : ∀ k, k < 8 -> w.cell? ⟨1, k, none⟩ = some (.int .i64 (onN k))
 off : ∀ k, k < 8 -> w.cell? ⟨0, k, none⟩ = some (.int .i64 (offN k))
theorem EnvS.of_below {B : Nat} {w w' : World} (h : EnvS w) (hb : Below B w w') (hB : w.heap.size <= B) : EnvS w' where
 on := fun k hk => (hb.cell (p := ⟨1, k, none⟩) (Nat.lt_of_lt_of_le (show 1 < w.heap.size from block_lt_of_cell (h.on 0 (by decide))) hB)).trans (h.on k hk)
 off := fun k hk => (hb.cell (p := ⟨0, k, none⟩) (Nat.lt_of_lt_of_le (show 0 < w.heap.size from block_lt_of_cell (h.off 0 (by decide))) hB)).trans (h.off k hk)
def IntRet (w : World) (L : List Int) (e : Ending) (w' : World) : Prop := ∃ v, e = .returned v /\ w'.ownsRow w.heap.size 3 1 v L.length (ints L) /\ Below w.heap.size w w'
theorem jb {w : World} {base n : Nat} {T : TypeId} {v : Value} {xs : List Value} (h : w.ownsRow base T 1 v n xs) : ∃ A c, v = .slice A n c := by
 rcases (j9 h).2 with ⟨rfl, rfl⟩ | ⟨g, c, rfl, _⟩
 ·exact ⟨none, 0, rfl⟩
 ·exact ⟨_, c, rfl⟩
theorem xP {w : World} {base base' n : Nat} {T : TypeId} {v : Value} {xs : List Value} (h : w.ownsRow base T 1 v n xs) (hb : base' <= base) : w.ownsRow base' T 1 v n xs := by
 refine ⟨h.1, h.2.imp id ?_⟩
 rintro ⟨g, cap, cur, e, b, r⟩
 exact ⟨g, cap, cur, e, Nat.le_trans hb b, r⟩
theorem on_at0 : ∀ W : World, (Instr.index 122 (.agg #[.int .i64 1, .int .i64 2, .int .i64 3, .int .i64 4, .int .i64 5, .int .i64 7, .int .i64 8, .int .i64 9]) (.int .i64 0)).run Tryz.prog W = .ok (.int .i64 1) W := fun _ => by kernel_rfl
theorem on_at1 : ∀ W : World, (Instr.index 122 (.agg #[.int .i64 1, .int .i64 2, .int .i64 3, .int .i64 4, .int .i64 5, .int .i64 7, .int .i64 8, .int .i64 9]) (.int .i64 1)).run Tryz.prog W = .ok (.int .i64 2) W := fun _ => by kernel_rfl
theorem on_at2 : ∀ W : World, (Instr.index 122 (.agg #[.int .i64 1, .int .i64 2, .int .i64 3, .int .i64 4, .int .i64 5, .int .i64 7, .int .i64 8, .int .i64 9]) (.int .i64 2)).run Tryz.prog W = .ok (.int .i64 3) W := fun _ => by kernel_rfl
theorem on_at3 : ∀ W : World, (Instr.index 122 (.agg #[.int .i64 1, .int .i64 2, .int .i64 3, .int .i64 4, .int .i64 5, .int .i64 7, .int .i64 8, .int .i64 9]) (.int .i64 3)).run Tryz.prog W = .ok (.int .i64 4) W := fun _ => by kernel_rfl
theorem on_at4 : ∀ W : World, (Instr.index 122 (.agg #[.int .i64 1, .int .i64 2, .int .i64 3, .int .i64 4, .int .i64 5, .int .i64 7, .int .i64 8, .int .i64 9]) (.int .i64 4)).run Tryz.prog W = .ok (.int .i64 5) W := fun _ => by kernel_rfl
theorem on_at5 : ∀ W : World, (Instr.index 122 (.agg #[.int .i64 1, .int .i64 2, .int .i64 3, .int .i64 4, .int .i64 5, .int .i64 7, .int .i64 8, .int .i64 9]) (.int .i64 5)).run Tryz.prog W = .ok (.int .i64 7) W := fun _ => by kernel_rfl
theorem on_at6 : ∀ W : World, (Instr.index 122 (.agg #[.int .i64 1, .int .i64 2, .int .i64 3, .int .i64 4, .int .i64 5, .int .i64 7, .int .i64 8, .int .i64 9]) (.int .i64 6)).run Tryz.prog W = .ok (.int .i64 8) W := fun _ => by kernel_rfl
theorem on_at7 : ∀ W : World, (Instr.index 122 (.agg #[.int .i64 1, .int .i64 2, .int .i64 3, .int .i64 4, .int .i64 5, .int .i64 7, .int .i64 8, .int .i64 9]) (.int .i64 7)).run Tryz.prog W = .ok (.int .i64 9) W := fun _ => by kernel_rfl
theorem on_at (k : Nat) (h : k < 8) (W : World) : (Instr.index 122 (.agg #[.int .i64 1, .int .i64 2, .int .i64 3, .int .i64 4, .int .i64 5, .int .i64 7, .int .i64 8, .int .i64 9]) (.int .i64 (k : Int))).run Tryz.prog W = .ok (.int .i64 (onN k)) W := by
 have : k = 0 \/ k = 1 \/ k = 2 \/ k = 3 \/ k = 4 \/ k = 5 \/ k = 6 \/ k = 7 := by omega
 rcases this with rfl | rfl | rfl | rfl | rfl | rfl | rfl | rfl
 ·exact on_at0 W
 ·exact on_at1 W
 ·exact on_at2 W
 ·exact on_at3 W
 ·exact on_at4 W
 ·exact on_at5 W
 ·exact on_at6 W
 ·exact on_at7 W
set_option maxHeartbeats 8000000 in
set_option maxRecDepth 100000 in
theorem Jv (f t : Sty) (w : World) (E : EnvS w) : Calls Tryz.prog 67 #[styV f.fg f.bg f.at_, styV t.fg t.bg t.at_] w (IntRet w (qn f t)) := by
 have E := Xk E
 obtain ⟨ff, fb, fa⟩ := f
 obtain ⟨tf, tb, ta⟩ := t
 have PL : Hid (qn ⟨ff, fb, fa⟩ ⟨tf, tb, ta⟩ = if (⟨plC ff, plC fb, fa⟩ : Sty) = ⟨plC tf, plC tb, ta⟩ then [] else if qq (twoL ⟨plC tf, plC tb, ta⟩) < qq (oneL ⟨plC ff, plC fb, fa⟩ ⟨plC tf, plC tb, ta⟩) then twoL ⟨plC tf, plC tb, ta⟩ else oneL ⟨plC ff, plC fb, fa⟩ ⟨plC tf, plC tb, ta⟩) := Xk rfl
 have I1 := jh tf
 have I2 := jh tb
 have I1 := Xk I1
 have I2 := Xk I2
 suffices H : ∀ L, Hid (L = qn ⟨ff, fb, fa⟩ ⟨tf, tb, ta⟩) -> Calls Tryz.prog 67 #[styV ff fb fa, styV tf tb ta] w (IntRet w L) from H _ (Xk rfl)
 intro L HL
 have PL : Hid (L = _) := Xk (HL.out.trans PL.out)
 clear HL
 go_enter Tryz.func67, Tryz.ntmps67
 go_upto_region 1 with fail
 go_cut [] from 13 to 16 (fun wx => C3 wx w.heap.size (.int .i32 (plC ff)) (.int .i32 (plC fb)) (.int .u8 (bI fa)) /\ C3 wx (w.heap.size + 1) (.int .i32 (plC tf)) (.int .i32 (plC tb)) (.int .u8 (bI ta)) /\ Below w.heap.size w wx)
 case first =>
  obtain ⟨W, hW⟩ : ∃ W, W = (w.alloc (.cells #[.int .i32 ff, .int .i32 fb, .int .u8 (bI fa)] 56)).alloc (.cells #[.int .i32 tf, .int .i32 tb, .int .u8 (bI ta)] 56) := ⟨_, rfl⟩
  have k0 : C3 W w.heap.size (.int .i32 ff) (.int .i32 fb) (.int .u8 (bI fa)) := by subst hW; constructor <;> simp [go_sem]
  have k1 : C3 W (w.heap.size + 1) (.int .i32 tf) (.int .i32 tb) (.int .u8 (bI ta)) := by subst hW; constructor <;> simp [go_sem]
  have hb : Below w.heap.size w W := by subst hW; go_grown
  rw [<- hW]
  clear hW
  have g00 := fun d os => ((k0.regrown d os).c0)
  have g01 := fun d os => ((k0.regrown d os).c1)
  have g02 := fun d os => ((k0.regrown d os).c2)
  have g10 := fun d os => ((k1.regrown d os).c0)
  have g11 := fun d os => ((k1.regrown d os).c1)
  have g12 := fun d os => ((k1.regrown d os).c2)
  refine QD 4 (by kernel_rfl) (by kernel_rfl) ?_
  simp only [Xn, Xo, Xp, Xq]
  repeat (quiet_step (exact (kC _ _ _).regrown))
  refine wpQuiet_nil ?_
  intro _ hw'
  obtain ⟨⟨dq, osq⟩, hw''⟩ := hw'
  subst hw''
  have hb1 := hb.trans ((below_regrown W dq osq).mono hb.size)
  have h0 := k0.regrown dq osq
  have h1 := k1.regrown dq osq
  clear g00 g01 g02 g10 g11 g12 k0 k1 hb
  generalize grow (redrawn W dq) osq = W1 at *
  have K0 := Xk h0
  have K1 := Xk h1
  obtain ⟨p0, p1, p2, r0, r1, r2⟩ := h0
  obtain ⟨q0, q1, q2, s0, s1, s2⟩ := h1
  go_wp2_with fail
  go_meet
  refine ⟨?_, ?_, ?_⟩
  ·exact (((K0.out.put _ _ _).far (by omega)).far (by omega)).far (by omega)
  ·exact (((K1.out.far (by omega)).far (by omega)).far (by omega)).put _ _ _
  ·exact (((((hb1.setCell Xm _).setCell Xm _).setCell Xm _).setCell (Nat.le_succ _) _).setCell (Nat.le_succ _) _).setCell (Nat.le_succ _) _
 case rest =>
  obtain ⟨c0, c1, hb⟩ := hcut
  have C0 := Xk c0
  have C1 := Xk c1
  have EW := Xk (E.out.of_below hb Xm)
  have HB := Xk hb
  obtain ⟨p0, p1, p2, r0, r1, r2⟩ := c0
  obtain ⟨q0, q1, q2, s0, s1, s2⟩ := c1
  clear hb
  generalize plC ff = pf at *
  generalize plC fb = pb at *
  generalize plC tf = qf at *
  generalize plC tb = qb at *
  obtain ⟨β, hβ⟩ : ∃ β : Bool, β = decide ((⟨pf, pb, fa⟩ : Sty) = ⟨qf, qb, ta⟩) := ⟨_, rfl⟩
  have HE := Xk hβ
  clear hβ
  go_upto_region 2 with fail
  go_cut [19] from 17 to 19 (fun s19 wx => s19 = .bool β /\ wx = wc)
  case first =>
   by_cases e1 : pf = qf
   all_goals by_cases e2 : pb = qb
   all_goals by_cases e3 : fa = ta
   all_goals
    first
     | (have hb : β = true := by rw [HE.out, e1, e2, e3]; exact decide_eq_true rfl)
     | (have hb : β = false := by rw [HE.out]; apply decide_eq_false; intro h; injection h with h1 h2 h3; first | exact e1 h1 | exact e2 h2 | exact e3 h3)
    have hb := Xk hb
    have E3 := Xk (fun h : bI fa = bI ta => xc h)
    first | subst e3 | (have n3 : ¬ bI fa = bI ta := fun h => e3 (xc h))
    first | subst e1 | skip
    first | subst e2 | skip
    go_wp2_with fail
    go_meet
    exact ⟨by rw [hb.out], rfl⟩
  case rest =>
   obtain ⟨rfl, rfl⟩ := hcut
   cases β with
   | true =>
    have L0 : Hid (L = []) := Xk (by rw [PL.out, if_pos (of_decide_eq_true HE.out.symm)])
    go_wp2_with fail
    go_ret
    exact ⟨_, rfl, by rw [L0.out]; exact World.ownsRow_nil _ _ _ _, HB.out⟩
   | false =>
    have PL' : Hid (L = if qq (twoL ⟨qf, qb, ta⟩) < qq (oneL ⟨pf, pb, fa⟩ ⟨qf, qb, ta⟩) then twoL ⟨qf, qb, ta⟩ else oneL ⟨pf, pb, fa⟩ ⟨qf, qb, ta⟩) := Xk (by rw [PL.out, if_neg (of_decide_eq_false HE.out.symm)])
    clear PL HE
    obtain ⟨w0, h0⟩ : ∃ w0, w0 = wc := ⟨_, rfl⟩
    subst h0
    have l0 := block_lt_of_cell p0
    have l1 := block_lt_of_cell q0
    simp only at l0 l1
    have P0 : Pair w0 (w0.alloc (.cells #[.int .i64 0] 3)) (.slice none 0 0) (.slice (some ⟨w0.heap.size, 0, none⟩) 1 1) [] [0] :=
     ⟨World.ownsRow_nil _ _ _ _, ⟨rfl, Or.inr ⟨w0.heap.size, 1, #[.int .i64 0], rfl, Xm, Array.getElem?_push_size, by simp, by unfold maxLen; simp, by simp, rfl⟩⟩, (fun g h => by cases h), (Below.refl _ _).alloc Xm _⟩
    go_upto_region 6 with fail
    go_quiet (fail)
    obtain ⟨G, hG⟩ : ∃ G : B8, G = fa &&& ~~~ta := ⟨_, rfl⟩
    obtain ⟨lam, hlam⟩ : ∃ lam : Bool, lam = qJ fa ta := ⟨_, rfl⟩
    have b3 : bits .and .u8 (bI G) 3 = bI (G &&& 3#8) := vM G 3 (by decide)
    have b3' : bits .and .u8 (bI ta) 3 = bI (ta &&& 3#8) := vM ta 3 (by decide)
    have bl : (bI (G &&& 3#8) != 0) = lam := by
     rw [hlam, hG]
     unfold qJ
     rw [Bool.eq_iff_iff, bne_iff_ne, bne_iff_ne]
     constructor
     ·intro h e; apply h; rw [show fa &&& ~~~ta &&& 3#8 = 0 from e]; rfl
     ·intro h e; apply h; exact xc (b := 0) e
    rw [<- hG]
    have HG := Xk hG
    have HLAM := Xk hlam
    have P1 : Pair w0 ((w0.alloc (.cells #[.int .i64 0] 3)).drewN nq) (.slice none 0 0) (.slice (some ⟨w0.heap.size, 0, none⟩) 1 1) [] [0] := ⟨P0.o1, P0.o2, P0.ap, below_drewN P0.be _⟩
    obtain ⟨W2, hW2⟩ : ∃ W2, W2 = ((w0.alloc (.cells #[.int .i64 0] 3)).drewN nq) := ⟨_, rfl⟩
    rw [<- hW2] at P1
    rw [<- hW2]
    clear hW2
    have C1' : C3 W2 (w.heap.size + 1) (.int .i32 qf) (.int .i32 qb) (.int .u8 (bI ta)) := C1.out.keep P1.be l1
    obtain ⟨q0', q1', q2', s0', s1', s2'⟩ := C1'
    have P1 := Xk P1
    clear hG hlam P0
    obtain ⟨V6, hV6⟩ : ∃ V6, V6 = Value.slice (some ⟨w0.heap.size, 0, none⟩) 1 1 := ⟨_, rfl⟩
    rw [<- hV6] at P1
    have HV6 := Xk hV6
    go_upto_if 34 with fail
    rw [<- hV6]
    clear hV6
    go_cut [5, 8] from 35 to 42 (fun s5 s8 wx => s8 = .int .u8 (bI ((ta &&& ~~~fa) ||| (if lam = true then ta &&& 3#8 else 0#8))) /\ Hid (Pair w0 wx s5 V6 (if lam = true then [22] else []) [0]))
    case first =>
     cases lam with
     | true =>
      go_wp2_with (at_builtin; refine xO P1.out (.tmp 35) (.tmp 36) 22 (by simp) rfl rfl rfl rfl ?_; intro v' w' P2; have hc2 := (P2.out.be.cell (p := ⟨w.heap.size + 1, 2, none⟩) l1).trans q2)
      go_meet
      exact ⟨rfl, P2⟩
     | false =>
      go_wp2_with fail
      go_meet
      exact ⟨by simp, P1⟩
    case rest =>
     obtain ⟨rfl, P2⟩ := hcut
     obtain ⟨CO, hCO⟩ : ∃ CO : B8, CO = (ta &&& ~~~fa) ||| (if lam = true then ta &&& 3#8 else 0#8) := ⟨_, rfl⟩
     obtain ⟨R1, hR1⟩ : ∃ R1 : List Int, R1 = (if lam = true then [22] else []) := ⟨_, rfl⟩
     rw [<- hCO]
     rw [<- hR1] at P2
     have HCO := Xk hCO
     have HR1 := Xk hR1
     have R1L : R1.length <= 1 := by rw [hR1]; split <;> simp
     clear hCO hR1 P1 b3 b3' bl
     go_wp2_with fail
     go_loopw [10, 5] (fun s10 s5 wr => ∃ k : Nat, 2 <= k /\ k <= 8 /\ s10 = .int .i64 k /\ Hid (Pair w0 wr s5 V6 (R1 ++ tkK G k) [0])) (fun s10 _ _ => 8 - (intOf s10).toNat)
     case atStart => exact ⟨2, by omega, by omega, rfl, Xk (by rw [tkK_two, List.append_nil]; exact P2.out)⟩
     case round =>
      obtain ⟨k, k2, k8, rfl, P3⟩ := hrel
      by_cases lt : k < 8
      ·have hb := kv G k lt
       have nx := tkK_next G k k2
       have lb := ZI G k
       have GB := bI_lt G
       have hs : bI G / 2 ^ min (Int.toNat (k : Int)) 8 = bI G / 2 ^ k := by rw [Int.toNat_natCast, Nat.min_eq_left (by omega)]
       have NX := Xk nx
       have ho := (EW.out.of_below P3.out.be Xm).off k lt
       clear nx
       cases e : G.getLsbD k
       all_goals
        rw [e] at hb
        have NX := NX.out
        rw [e] at NX
        simp only [Bool.false_eq_true, if_false, if_true] at hb NX
        have NX := Xk NX
        clear e
       ·go_wp2_with fail
        go_roundw
        case rel => exact ⟨k + 1, by omega, by omega, by go_num, Xk (by rw [NX.out]; exact P3.out)⟩
        case measure => simp [intOf]; omega
       ·go_wp2_with (at_builtin; refine xO P3.out (.tmp 52) (.tmp 56) (offN k) (by rw [List.length_append]; omega) rfl rfl rfl rfl ?_; intro v' w' P4)
        go_roundw
        case rel => exact ⟨k + 1, by omega, by omega, by go_num, Xk (by rw [NX.out, <- List.append_assoc]; exact P4.out)⟩
        case measure => simp [intOf]; omega
      ·have ek : k = 8 := by omega
       subst ek
       rw [ZK] at P3
       obtain ⟨R2, hR2⟩ : ∃ R2, R2 = R1 ++ jy G := ⟨_, rfl⟩
       rw [<- hR2] at P3
       have R2L : R2.length <= 9 := by rw [hR2, List.length_append]; have := ZI G 8; rw [ZK] at this; omega
       have HR2 := Xk hR2
       have EV := EW.out.of_below P3.out.be Xm
       have n0 : wr.cell? ⟨1, 0, none⟩ = some (.int .i64 1) := EV.on 0 (by decide)
       have n1 : wr.cell? ⟨1, 1, none⟩ = some (.int .i64 2) := EV.on 1 (by decide)
       have n2 : wr.cell? ⟨1, 2, none⟩ = some (.int .i64 3) := EV.on 2 (by decide)
       have n3 : wr.cell? ⟨1, 3, none⟩ = some (.int .i64 4) := EV.on 3 (by decide)
       have n4 : wr.cell? ⟨1, 4, none⟩ = some (.int .i64 5) := EV.on 4 (by decide)
       have n5 : wr.cell? ⟨1, 5, none⟩ = some (.int .i64 7) := EV.on 5 (by decide)
       have n6 : wr.cell? ⟨1, 6, none⟩ = some (.int .i64 8) := EV.on 6 (by decide)
       have n7 : wr.cell? ⟨1, 7, none⟩ = some (.int .i64 9) := EV.on 7 (by decide)
       clear hR2 EV
       go_wp2_with fail
       clear n0 n1 n2 n3 n4 n5 n6 n7
       go_loopw [59, 5, 6] (fun s59 s5 s6 wx => ∃ k : Nat, k <= 8 /\ s59 = .int .i64 k /\ Hid (Pair w0 wx s5 s6 (R2 ++ stK CO k) ([0] ++ stK ta k))) (fun s59 _ _ _ => 8 - (intOf s59).toNat)
       case atStart => exact ⟨0, by omega, rfl, Xk (by rw [show stK CO 0 = [] from rfl, show stK ta 0 = [] from rfl, List.append_nil, List.append_nil]; exact P3.out)⟩
       case round =>
        obtain ⟨k, k8, rfl, P4⟩ := hrel
        by_cases lt : k < 8
        ·have hb1 := kv CO k lt
         have hb2 := kv ta k lt
         have nx1 := ZH CO k
         have nx2 := ZH ta k
         have lb1 := ZJ CO k
         have lb2 := ZJ ta k
         have GB1 := bI_lt CO
         have GB2 := bI_lt ta
         have hs1 : bI CO / 2 ^ min (Int.toNat (k : Int)) 8 = bI CO / 2 ^ k := by rw [Int.toNat_natCast, Nat.min_eq_left (by omega)]
         have hs2 : bI ta / 2 ^ min (Int.toNat (k : Int)) 8 = bI ta / 2 ^ k := by rw [Int.toNat_natCast, Nat.min_eq_left (by omega)]
         have ia := on_at k lt
         have NX1 := Xk nx1
         have NX2 := Xk nx2
         have ct := (C1.out.keep P4.out.be l1).c2
         clear nx1 nx2
         cases e1 : CO.getLsbD k
         all_goals cases e2 : ta.getLsbD k
         all_goals
          rw [e1] at hb1
          rw [e2] at hb2
          have NX1 := NX1.out
          have NX2 := NX2.out
          rw [e1] at NX1
          rw [e2] at NX2
          simp only [Bool.false_eq_true, if_false, if_true] at hb1 hb2 NX1 NX2
          have NX1 := Xk NX1
          have NX2 := Xk NX2
          clear e1 e2
         ·go_wp2_with fail
          go_roundw
          case rel => first | exact ⟨k + 1, by omega, by go_num, Xk (by rw [NX1.out, NX2.out]; exact P4.out)⟩ | ((repeat apply Exists.intro); exact ⟨⟨k + 1, by omega, by go_num, Xk (by rw [NX1.out, NX2.out]; exact P4.out)⟩, rfl⟩)
          case measure => simp [intOf]; omega
         ·go_wp2_with (at_builtin; refine ZG P4.out (.tmp 78) (.tmp 80) (onN k) (by rw [List.length_append]; simp; omega) rfl rfl rfl rfl ?_; intro v' w' P5)
          go_roundw
          case rel => first | exact ⟨k + 1, by omega, by go_num, Xk (by rw [NX1.out, NX2.out, <- List.append_assoc]; exact P5.out)⟩ | ((repeat apply Exists.intro); exact ⟨⟨k + 1, by omega, by go_num, Xk (by rw [NX1.out, NX2.out, <- List.append_assoc]; exact P5.out)⟩, rfl⟩)
          case measure => simp [intOf]; omega
         ·go_wp2_with (at_builtin; refine xO P4.out (.tmp 68) (.tmp 70) (onN k) (by rw [List.length_append]; omega) rfl rfl rfl rfl ?_; intro v' w' P5; have ct5 := (C1.out.keep P5.out.be l1).c2)
          go_roundw
          case rel => first | exact ⟨k + 1, by omega, by go_num, Xk (by rw [NX1.out, NX2.out, <- List.append_assoc]; exact P5.out)⟩ | ((repeat apply Exists.intro); exact ⟨⟨k + 1, by omega, by go_num, Xk (by rw [NX1.out, NX2.out, <- List.append_assoc]; exact P5.out)⟩, rfl⟩)
          case measure => simp [intOf]; omega
         ·go_wp2_with (first | (at_builtin; refine ZG P5.out (.tmp 78) (.tmp 80) (onN k) (by rw [List.length_append]; simp; omega) rfl rfl rfl rfl ?_; intro v' w' P6) | (at_builtin; refine xO P4.out (.tmp 68) (.tmp 70) (onN k) (by rw [List.length_append]; omega) rfl rfl rfl rfl ?_; intro v' w' P5; have ct5 := (C1.out.keep P5.out.be l1).c2))
          go_roundw
          case rel => first | exact ⟨k + 1, by omega, by go_num, Xk (by rw [NX1.out, NX2.out, <- List.append_assoc, <- List.append_assoc]; exact P6.out)⟩ | ((repeat apply Exists.intro); exact ⟨⟨k + 1, by omega, by go_num, Xk (by rw [NX1.out, NX2.out, <- List.append_assoc, <- List.append_assoc]; exact P6.out)⟩, rfl⟩)
          case measure => simp [intOf]; omega
        ·have ek : k = 8 := by omega
         subst ek
         rw [ZL, ZL] at P4
         obtain ⟨A0, hA0⟩ : ∃ A0, A0 = R2 ++ setL CO := ⟨_, rfl⟩
         obtain ⟨B0, hB0⟩ : ∃ B0, B0 = [0] ++ setL ta := ⟨_, rfl⟩
         rw [<- hA0, <- hB0] at P4
         have LA0 : A0.length <= 20 := by rw [hA0, List.length_append]; have := (kw CO).2.2; omega
         have LB0 : B0.length <= 20 := by rw [hB0, List.length_append]; have := (kw ta).2.2; simp; omega
         have HA0 := Xk hA0
         have HB0 := Xk hB0
         clear hA0 hB0
         obtain ⟨x0, x1, x2, _, _, _⟩ := C0.out.keep P4.out.be l0
         obtain ⟨y0, y1, y2, _, _, _⟩ := C1.out.keep P4.out.be l1
         obtain ⟨A1, hA1⟩ : ∃ A1, A1 = A0 ++ (if pf = qf then [] else colL qf 30) := ⟨_, rfl⟩
         have LA1 : A1.length <= 25 := by
          rw [hA1, List.length_append]
          have := jj qf 30
          split
          ·simp; omega
          ·omega
         have HA1 := Xk hA1
         clear hA1
         go_upto_if 87 with fail
         go_cut [5] from 87 to 91 (fun s5 wx => Hid (Pair w0 wx s5 u6 A1 B0))
         case first =>
          by_cases c : pf = qf
          ·have g : (pf != qf) = false := by rw [c]; simp
           have e : Hid (A1 = A0) := Xk (by rw [HA1.out, if_pos c, List.append_nil])
           clear c
           go_wp2_with fail
           go_meet
           exact Xk (by rw [e.out]; exact P4.out)
          ·have g : (pf != qf) = true := by rw [bne_iff_ne]; exact c
           have e : Hid (A1 = A0 ++ colL qf 30) := Xk (by rw [HA1.out, if_neg c])
           clear c
           go_wp2_with fail
           refine (xN w0.heap.size _ A0 qf 30 I1.out (by decide) (by decide) (by omega) _ P4.out.be.size P4.out.o1).mono ?_
           rintro e' w' ⟨v', rfl, h1, h2, h3⟩
           have P' := Xk (P4.out.one h1 h2 h3)
           clear h1 h2 h3
           go_wp2_with fail
           go_meet
           exact Xk (by rw [e.out]; exact P'.out)
         case rest =>
          have P5 := hcut
          clear hcut
          obtain ⟨x0, x1, x2, _, _, _⟩ := C0.out.keep P5.out.be l0
          obtain ⟨y0, y1, y2, _, _, _⟩ := C1.out.keep P5.out.be l1
          obtain ⟨B2, hB2⟩ : ∃ B2, B2 = B0 ++ (if qf = 0 then [] else colL qf 30) := ⟨_, rfl⟩
          have LB2 : B2.length <= 30 := by
           rw [hB2, List.length_append]
           have := jj qf 30
           split
           ·simp; omega
           ·omega
          have HB2 := Xk hB2
          clear hB2
          go_upto_if 94 with fail
          go_cut [6] from 94 to 98 (fun s6 wx => Hid (Pair w0 wx u5 s6 A1 B2))
          case first =>
           by_cases c : qf = 0
           ·have g : (qf != 0) = false := by rw [c]; simp
            have e : Hid (B2 = B0) := Xk (by rw [HB2.out, if_pos c, List.append_nil])
            clear c
            go_wp2_with fail
            go_meet
            exact Xk (by rw [e.out]; exact P5.out)
           ·have g : (qf != 0) = true := by rw [bne_iff_ne]; exact c
            have e : Hid (B2 = B0 ++ colL qf 30) := Xk (by rw [HB2.out, if_neg c])
            clear c
            go_wp2_with fail
            refine (xN w0.heap.size _ B0 qf 30 I1.out (by decide) (by decide) (by omega) _ P5.out.be.size P5.out.o2).mono ?_
            rintro e' w' ⟨v', rfl, h1, h2, h3⟩
            have P' := Xk (P5.out.two h1 h2 h3)
            clear h1 h2 h3
            go_wp2_with fail
            go_meet
            exact Xk (by rw [e.out]; exact P'.out)
          case rest =>
           have P6 := hcut
           clear hcut
           obtain ⟨x0, x1, x2, _, _, _⟩ := C0.out.keep P6.out.be l0
           obtain ⟨y0, y1, y2, _, _, _⟩ := C1.out.keep P6.out.be l1
           obtain ⟨A3, hA3⟩ : ∃ A3, A3 = A1 ++ (if pb = qb then [] else colL qb 40) := ⟨_, rfl⟩
           have LA3 : A3.length <= 35 := by
            rw [hA3, List.length_append]
            have := jj qb 40
            split
            ·simp; omega
            ·omega
           have HA3 := Xk hA3
           clear hA3
           go_upto_if 103 with fail
           go_cut [5] from 103 to 107 (fun s5 wx => Hid (Pair w0 wx s5 u6 A3 B2))
           case first =>
            by_cases c : pb = qb
            ·have g : (pb != qb) = false := by rw [c]; simp
             have e : Hid (A3 = A1) := Xk (by rw [HA3.out, if_pos c, List.append_nil])
             clear c
             go_wp2_with fail
             go_meet
             exact Xk (by rw [e.out]; exact P6.out)
            ·have g : (pb != qb) = true := by rw [bne_iff_ne]; exact c
             have e : Hid (A3 = A1 ++ colL qb 40) := Xk (by rw [HA3.out, if_neg c])
             clear c
             go_wp2_with fail
             refine (xN w0.heap.size _ A1 qb 40 I2.out (by decide) (by decide) (by omega) _ P6.out.be.size P6.out.o1).mono ?_
             rintro e' w' ⟨v', rfl, h1, h2, h3⟩
             have P' := Xk (P6.out.one h1 h2 h3)
             clear h1 h2 h3
             go_wp2_with fail
             go_meet
             exact Xk (by rw [e.out]; exact P'.out)
           case rest =>
            have P7 := hcut
            clear hcut
            obtain ⟨x0, x1, x2, _, _, _⟩ := C0.out.keep P7.out.be l0
            obtain ⟨y0, y1, y2, _, _, _⟩ := C1.out.keep P7.out.be l1
            obtain ⟨B4, hB4⟩ : ∃ B4, B4 = B2 ++ (if qb = 0 then [] else colL qb 40) := ⟨_, rfl⟩
            have LB4 : B4.length <= 40 := by
             rw [hB4, List.length_append]
             have := jj qb 40
             split
             ·simp; omega
             ·omega
            have HB4 := Xk hB4
            clear hB4
            go_upto_if 110 with fail
            go_cut [6] from 110 to 114 (fun s6 wx => Hid (Pair w0 wx u5 s6 A3 B4))
            case first =>
             by_cases c : qb = 0
             ·have g : (qb != 0) = false := by rw [c]; simp
              have e : Hid (B4 = B2) := Xk (by rw [HB4.out, if_pos c, List.append_nil])
              clear c
              go_wp2_with fail
              go_meet
              exact Xk (by rw [e.out]; exact P7.out)
             ·have g : (qb != 0) = true := by rw [bne_iff_ne]; exact c
              have e : Hid (B4 = B2 ++ colL qb 40) := Xk (by rw [HB4.out, if_neg c])
              clear c
              go_wp2_with fail
              refine (xN w0.heap.size _ B2 qb 40 I2.out (by decide) (by decide) (by omega) _ P7.out.be.size P7.out.o2).mono ?_
              rintro e' w' ⟨v', rfl, h1, h2, h3⟩
              have P' := Xk (P7.out.two h1 h2 h3)
              clear h1 h2 h3
              go_wp2_with fail
              go_meet
              exact Xk (by rw [e.out]; exact P'.out)
            case rest =>
             have P8 := hcut
             clear hcut
             have OA : Hid (A3 = oneL ⟨pf, pb, fa⟩ ⟨qf, qb, ta⟩) := Xk (by
              rw [HA3.out, HA1.out, HA0.out, HR2.out, HR1.out, HG.out, HCO.out, HLAM.out]
              rfl)
             have OB : Hid (B4 = twoL ⟨qf, qb, ta⟩) := Xk (by
              rw [HB4.out, HB2.out, HB0.out]
              rfl)
             have RA : ∀ x ∈ A3, 0 <= x /\ x < 1000 := by rw [OA.out]; exact vU _ _ I1.out I2.out
             have RB : ∀ x ∈ B4, 0 <= x /\ x < 1000 := by rw [OB.out]; exact vV _ I1.out I2.out
             obtain ⟨Aa, ca, ea⟩ := jb P8.out.o1
             obtain ⟨Ab, cb, eb⟩ := jb P8.out.o2
             subst ea eb
             have ZA := Xk (ZE Aa ca A3 RA (by omega) wc (Sees.of_own P8.out.o1))
             have ZB := Xk (ZE Ab cb B4 RB (by omega) wc (Sees.of_own P8.out.o2))
             have PLL : Hid (L = if qq B4 < qq A3 then B4 else A3) := Xk (by rw [PL'.out, OA.out, OB.out])
             have BB := Xk (HB.out.trans (P8.out.be.mono HB.out.size))
             clear RA RB PL'
             go_wp2_with fail
             refine ZB.out.mono ?_; rintro e' w' ⟨rfl, rfl⟩
             go_wp2_with fail
             refine ZA.out.mono ?_; rintro e' w' ⟨rfl, rfl⟩
             by_cases lt : qq B4 < qq A3
             ·have LL : Hid (L = B4) := Xk (by rw [PLL.out, if_pos lt])
              go_wp2_with fail
              go_ret
              exact ⟨_, rfl, by rw [LL.out]; exact xP P8.out.o2 HB.out.size, BB.out⟩
             ·have LL : Hid (L = A3) := Xk (by rw [PLL.out, if_neg lt])
              go_wp2_with fail
              go_ret
              exact ⟨_, rfl, by rw [LL.out]; exact xP P8.out.o1 HB.out.size, BB.out⟩
end
section
open Go.RowKit Go.Sort
theorem xj {B b : Nat} {a w : World} (h : Below B a w) (hb : B <= b) (x y z : Value) : Below B a (((w.setCell ⟨b, 0, none⟩ x).setCell ⟨b, 1, none⟩ y).setCell ⟨b, 2, none⟩ z) := ((h.setCell (p := ⟨b, 0, none⟩) hb x).setCell (p := ⟨b, 1, none⟩) hb y).setCell (p := ⟨b, 2, none⟩) hb z
theorem Gives.to {k : Nat} {args : Array Value} {u v : Value} (h : Gives k args u) (e : u = v) : Gives k args v := e ▸ h
theorem ZM (c d : Int) (hc : zy c) : Gives 58 #[.int .i32 c, .int .i64 d] (.int .i32 (zt c d)) := by
 intro w
 have P1 := Xk (ref_To16 c hc.1 hc.2)
 have P2 := Xk (Jm c hc.1 hc.2)
 clear hc
 by_cases c0 : c = 0
 ·have E : Hid (zt c d = 0) := Xk (by unfold zt; rw [if_pos (Or.inl c0)])
  have g1 : (c == 0) = true := by simpa using c0
  clear c0
  go_enter Tryz.func58, Tryz.ntmps58
  go_wp2_with fail
  go_ret
  exact ⟨zC E.out.symm, Below.refl _ _⟩
 have g1 : (c == 0) = false := by simpa using c0
 have C0 := Xk c0
 clear c0
 by_cases d0 : d <= 0
 ·have E : Hid (zt c d = 0) := Xk (by unfold zt; rw [if_pos (Or.inr d0)])
  go_enter Tryz.func58, Tryz.ntmps58
  go_wp2_with fail
  go_ret
  exact ⟨zC E.out.symm, Below.refl _ _⟩
 by_cases d1 : d = 1
 ·have E : Hid (zt c d = zW c) := Xk (by unfold zt; rw [if_neg (by have := C0.out; omega), if_pos d1])
  subst d1
  go_enter Tryz.func58, Tryz.ntmps58
  go_wp2_with fail
  refine (P1.out _).mono ?_; rintro e w1 ⟨rfl, hb1⟩
  go_wp2_with fail
  go_ret
  exact ⟨zC E.out.symm, hb1⟩
 by_cases d2 : d = 2
 ·have E : Hid (zt c d = qv c) := Xk (by unfold zt; rw [if_neg (by have := C0.out; omega), if_neg d1, if_pos d2])
  subst d2
  go_enter Tryz.func58, Tryz.ntmps58
  go_wp2_with fail
  refine (P2.out _).mono ?_; rintro e w1 ⟨rfl, hb1⟩
  go_wp2_with fail
  go_ret
  exact ⟨zC E.out.symm, hb1⟩
 ·have E : Hid (zt c d = c) := Xk (by unfold zt; rw [if_neg (by have := C0.out; omega), if_neg d1, if_neg d2])
  have g3 : (d == 1) = false := by simpa using d1
  have g4 : (d == 2) = false := by simpa using d2
  clear d1 d2
  go_enter Tryz.func58, Tryz.ntmps58
  go_wp2_with fail
  go_ret
  exact ⟨zC E.out.symm, Below.refl _ _⟩
theorem ZN (c : Int) (h : qu c) : zy c := by rcases h with rfl | h | h <;> exact ⟨by omega, by omega⟩
set_option maxHeartbeats 8000000 in
theorem Jw (s : Sty) (d : Int) (hf : zy s.fg) (hb : zy s.bg) : Gives 37 #[styV s.fg s.bg s.at_, .int .i64 d] (styV (zK s d).fg (zK s d).bg (zK s d).at_) := by
 intro w
 have C0 := Xk (Ze s.fg s.bg s.at_ hf hb)
 have C1 := Xk (ZM (plC s.fg) d (ZN _ (jh _)))
 have C2 := Xk (ZM (plC s.bg) d (ZN _ (jh _)))
 have RF : Hid ((zK s d).fg = zt (plC s.fg) d) := Xk rfl
 have RB : Hid ((zK s d).bg = zt (plC s.bg) d) := Xk rfl
 have RA : Hid ((zK s d).at_ = s.at_) := Xk rfl
 generalize zK s d = r at *
 generalize plC s.fg = F at *
 generalize plC s.bg = B at *
 clear hf hb
 go_enter Tryz.func37, Tryz.ntmps37
 go_wp2_with fail
 refine (C0.out _).mono ?_; rintro e w1 ⟨rfl, hb1⟩
 have q2 : C3 w1 (w.heap.size + 1) (.int .i32 0) (.int .i32 0) (.int .u8 0) := C3.keep (by constructor <;> simp [go_sem]) hb1 (by simp)
 have hB1 : Below w.heap.size w w1 := zk (by go_grown) (by simp; omega) hb1
 clear hb1
 have l1 := q2.lt
 have Q2 := Xk (q2.alloc (.cells #[.int .i32 F, .int .i32 B, .int .u8 (bI s.at_)] 56))
 have HB := Xk (hB1.alloc (by omega) (.cells #[.int .i32 F, .int .i32 B, .int .u8 (bI s.at_)] 56))
 have K0 : Hid (C3 (w1.alloc (.cells #[.int .i32 F, .int .i32 B, .int .u8 (bI s.at_)] 56)) w1.heap.size (.int .i32 F) (.int .i32 B) (.int .u8 (bI s.at_))) := Xk (by constructor <;> simp [go_sem])
 obtain ⟨z0, z1, z2, y0, y1, y2⟩ := q2
 clear hB1
 go_wp2_with fail
 refine (C1.out _).mono ?_; rintro e' w2 ⟨rfl, hb2⟩
 have K0' := Xk (K0.out.keep hb2 K0.out.lt)
 have Q2' := Xk (Q2.out.keep hb2 Q2.out.lt)
 have HB' := Xk (zk HB.out HB.out.size hb2)
 clear hb2
 obtain ⟨b0, b1, b2, i0, i1, i2⟩ := K0'.out
 go_wp2_with fail
 refine (C2.out _).mono ?_; rintro e' w3 ⟨rfl, hb3⟩
 obtain ⟨c0, c1, c2, k0, k1, k2⟩ := K0'.out.keep hb3 K0'.out.lt
 obtain ⟨d0, d1, d2, j0, j1, j2⟩ := Q2'.out.keep hb3 Q2'.out.lt
 have HB2 := Xk (zk HB'.out HB'.out.size hb3)
 clear hb3
 go_wp2_with fail
 refine bodyPost_ret (v := styV r.fg r.bg r.at_) (by rw [RF.out, RB.out, RA.out]; simp [results, Tryz.results37, go_sem, d0, d1, d2]) rfl ⟨rfl, ?_⟩
 exact xj HB2.out (Nat.le_succ _) _ _ _
end
section
open Go.RowKit Go.Sort
theorem st_red1 (c : Int) : Tells 41 #[.int .i32 c] (.int .i32 c) := by
 intro w
 go_enter Tryz.func41, Tryz.ntmps41
 go_wp2
 go_ret
 exact ⟨rfl, rfl⟩
theorem st_red2 (c : Int) : Tells 42 #[.int .i32 c] (.int .i32 0) := by
 intro w
 go_enter Tryz.func42, Tryz.ntmps42
 go_wp2
 go_ret
 exact ⟨rfl, rfl⟩
theorem Tells.gives {k : Nat} {args : Array Value} {v : Value} (h : Tells k args v) : Gives k args v := fun w => (h w).mono fun _ _ ⟨a, b⟩ => ⟨a, by rw [<- b]; exact Below.refl _ _⟩
set_option maxHeartbeats 8000000 in
set_option maxRecDepth 100000 in
theorem Jy (s : Sty) (d : Int) : Gives 24 #[styV s.fg s.bg s.at_, .int .i64 d] (styV (zK s d).fg (zK s d).bg (zK s d).at_) := by
 intro w
 have C0 := Xk (kC s.fg s.bg s.at_)
 have RF : Hid ((zK s d).fg = zt (plC s.fg) d) := Xk rfl
 have RB : Hid ((zK s d).bg = zt (plC s.bg) d) := Xk rfl
 have RA : Hid ((zK s d).at_ = s.at_) := Xk rfl
 have Z0 : Hid (zt 0 d = 0) := Xk (by unfold zt; rw [if_pos (Or.inl rfl)])
 generalize zK s d = r at *
 generalize plC s.fg = F at *
 generalize plC s.bg = B at *
 have fin : ∀ (k : Nat), (∀ c, c ≠ 0 -> Gives k #[.int .i32 c] (.int .i32 (zt c d))) -> Hid (∀ c, c ≠ 0 -> Gives k #[.int .i32 c] (.int .i32 (zt c d))) := fun k h => Xk h
 have cases4 : (d <= 0) \/ (0 < d /\ d = 1) \/ (0 < d /\ d = 2) \/ (0 < d /\ ¬ d = 1 /\ ¬ d = 2) := by omega
 rcases cases4 with d0 | ⟨d0, d1⟩ | ⟨d0, d2⟩ | ⟨d0, d1, d2⟩
 ·have PK := fin 42 (fun c hc => (st_red2 c).gives.to (by unfold zt; rw [if_pos (Or.inr d0)]))
  clear fin
  by_cases f0 : F = 0
  all_goals by_cases b0 : B = 0
  all_goals
   first | (have RF : Hid (r.fg = F) := Xk (by rw [RF.out, f0, Z0.out])) | skip
   first | (have RB : Hid (r.bg = B) := Xk (by rw [RB.out, b0, Z0.out])) | skip
   have F0 := Xk f0
   have B0 := Xk b0
   first | (have g1 : (F != 0) = true := by rw [bne_iff_ne]; exact f0) | (have g1 : (F != 0) = false := by rw [f0]; rfl)
   first | (have g2 : (B != 0) = true := by rw [bne_iff_ne]; exact b0) | (have g2 : (B != 0) = false := by rw [b0]; rfl)
   clear f0 b0
   go_enter Tryz.func24, Tryz.ntmps24
   go_wp2_with fail
   refine (C0.out _).mono ?_; rintro e w1 ⟨rfl, hb1⟩
   have q1 : C3 w1 w.heap.size (.int .i32 s.fg) (.int .i32 s.bg) (.int .u8 (bI s.at_)) := C3.keep (by constructor <;> simp [go_sem]) hb1 (by simp; omega)
   have q2 : C3 w1 (w.heap.size + 1) (.int .i32 0) (.int .i32 0) (.int .u8 0) := C3.keep (by constructor <;> simp [go_sem]) hb1 (by simp)
   have hB1 : Below w.heap.size w w1 := zk (by go_grown) (by simp; omega) hb1
   clear hb1
   have ne : w.heap.size + 1 ≠ w.heap.size := by omega
   have Q1 := Xk (q1.put (.int .i32 F) (.int .i32 B) (.int .u8 (bI s.at_)))
   have Q2 := Xk (((q2.far (b' := w.heap.size) (o := 0) (y := .int .i32 F) ne).far (b' := w.heap.size) (o := 1) (y := .int .i32 B) ne).far (b' := w.heap.size) (o := 2) (y := .int .u8 (bI s.at_)) ne)
   have HB := Xk (xj hB1 Xm (.int .i32 F) (.int .i32 B) (.int .u8 (bI s.at_)))
   obtain ⟨a0, a1, a2, f0, f1, f2⟩ := q1
   obtain ⟨z0, z1, z2, y0, y1, y2⟩ := q2
   clear hB1 ne
   go_wp2_with fail
  ·refine bodyPost_ret (v := styV r.fg r.bg r.at_) (by rw [RF.out, RB.out, RA.out]; simp [results, Tryz.results24, go_sem, z0, z1, z2]) rfl ⟨rfl, ?_⟩
   repeat (first | with_reducible exact HB.out | refine Below.setCell ?_ (by first | exact Xm | exact Nat.le_succ _) _)
  ·refine (PK.out B B0.out _).mono ?_; rintro e' w2 ⟨rfl, hb2⟩
   have KA := Xk (Q1.out.keep hb2 Q1.out.lt)
   have KB := Xk (Q2.out.keep hb2 Q2.out.lt)
   have KC := Xk (zk HB.out HB.out.size hb2)
   clear hb2
   obtain ⟨b0, b1, b2, i0, i1, i2⟩ := KA.out
   obtain ⟨d0, d1, d2, j0, j1, j2⟩ := KB.out
   go_wp2_with fail
   refine bodyPost_ret (v := styV r.fg r.bg r.at_) (by rw [RF.out, RB.out, RA.out]; simp [results, Tryz.results24, go_sem, d0, d1, d2]) rfl ⟨rfl, ?_⟩
   repeat (first | with_reducible exact KC.out | refine Below.setCell ?_ (by first | exact Xm | exact Nat.le_succ _) _)
  ·refine (PK.out F F0.out _).mono ?_; rintro e' w2 ⟨rfl, hb2⟩
   have KA := Xk (Q1.out.keep hb2 Q1.out.lt)
   have KB := Xk (Q2.out.keep hb2 Q2.out.lt)
   have KC := Xk (zk HB.out HB.out.size hb2)
   clear hb2
   obtain ⟨b0, b1, b2, i0, i1, i2⟩ := KA.out
   obtain ⟨d0, d1, d2, j0, j1, j2⟩ := KB.out
   go_wp2_with fail
   refine bodyPost_ret (v := styV r.fg r.bg r.at_) (by rw [RF.out, RB.out, RA.out]; simp [results, Tryz.results24, go_sem, d0, d1, d2]) rfl ⟨rfl, ?_⟩
   repeat (first | with_reducible exact KC.out | refine Below.setCell ?_ (by first | exact Xm | exact Nat.le_succ _) _)
  ·refine (PK.out F F0.out _).mono ?_; rintro e' w2 ⟨rfl, hb2⟩
   have KA := Xk (Q1.out.keep hb2 Q1.out.lt)
   have KB := Xk (Q2.out.keep hb2 Q2.out.lt)
   have KC := Xk (zk HB.out HB.out.size hb2)
   clear hb2
   obtain ⟨b0, b1, b2, i0, i1, i2⟩ := KA.out
   obtain ⟨d0, d1, d2, j0, j1, j2⟩ := KB.out
   go_wp2_with fail
   have ne : w.heap.size + 1 ≠ w.heap.size := by omega
   have L1 := Xk (KA.out.set0 (.int .i32 (zt F d)))
   have L2 := Xk (KB.out.far (b' := w.heap.size) (o := 0) (y := .int .i32 (zt F d)) ne)
   have L3 := Xk (KC.out.setCell (p := ⟨w.heap.size, 0, none⟩) Xm (.int .i32 (zt F d)))
   clear b0 b1 b2 i0 i1 i2 d0 d1 d2 j0 j1 j2 KA KB KC ne
   refine (PK.out B B0.out _).mono ?_; rintro e' w3 ⟨rfl, hb2⟩
   have KA := Xk (L1.out.keep hb2 L1.out.lt)
   have KB := Xk (L2.out.keep hb2 L2.out.lt)
   have KC := Xk (zk L3.out L3.out.size hb2)
   clear hb2
   obtain ⟨b0, b1, b2, i0, i1, i2⟩ := KA.out
   obtain ⟨d0, d1, d2, j0, j1, j2⟩ := KB.out
   go_wp2_with fail
   refine bodyPost_ret (v := styV r.fg r.bg r.at_) (by rw [RF.out, RB.out, RA.out]; simp [results, Tryz.results24, go_sem, d0, d1, d2]) rfl ⟨rfl, ?_⟩
   repeat (first | with_reducible exact KC.out | refine Below.setCell ?_ (by first | exact Xm | exact Nat.le_succ _) _)
 ·have PK := fin 43 (fun c hc => (Jl c).to (by unfold zt; rw [if_neg (by omega), if_pos d1]))
  have g3 : (d == 1) = true := by simpa using d1
  clear d1
  clear fin
  by_cases f0 : F = 0
  all_goals by_cases b0 : B = 0
  all_goals
   first | (have RF : Hid (r.fg = F) := Xk (by rw [RF.out, f0, Z0.out])) | skip
   first | (have RB : Hid (r.bg = B) := Xk (by rw [RB.out, b0, Z0.out])) | skip
   have F0 := Xk f0
   have B0 := Xk b0
   first | (have g1 : (F != 0) = true := by rw [bne_iff_ne]; exact f0) | (have g1 : (F != 0) = false := by rw [f0]; rfl)
   first | (have g2 : (B != 0) = true := by rw [bne_iff_ne]; exact b0) | (have g2 : (B != 0) = false := by rw [b0]; rfl)
   clear f0 b0
   go_enter Tryz.func24, Tryz.ntmps24
   go_wp2_with fail
   refine (C0.out _).mono ?_; rintro e w1 ⟨rfl, hb1⟩
   have q1 : C3 w1 w.heap.size (.int .i32 s.fg) (.int .i32 s.bg) (.int .u8 (bI s.at_)) := C3.keep (by constructor <;> simp [go_sem]) hb1 (by simp; omega)
   have q2 : C3 w1 (w.heap.size + 1) (.int .i32 0) (.int .i32 0) (.int .u8 0) := C3.keep (by constructor <;> simp [go_sem]) hb1 (by simp)
   have hB1 : Below w.heap.size w w1 := zk (by go_grown) (by simp; omega) hb1
   clear hb1
   have ne : w.heap.size + 1 ≠ w.heap.size := by omega
   have Q1 := Xk (q1.put (.int .i32 F) (.int .i32 B) (.int .u8 (bI s.at_)))
   have Q2 := Xk (((q2.far (b' := w.heap.size) (o := 0) (y := .int .i32 F) ne).far (b' := w.heap.size) (o := 1) (y := .int .i32 B) ne).far (b' := w.heap.size) (o := 2) (y := .int .u8 (bI s.at_)) ne)
   have HB := Xk (xj hB1 Xm (.int .i32 F) (.int .i32 B) (.int .u8 (bI s.at_)))
   obtain ⟨a0, a1, a2, f0, f1, f2⟩ := q1
   obtain ⟨z0, z1, z2, y0, y1, y2⟩ := q2
   clear hB1 ne
   go_wp2_with fail
  ·refine bodyPost_ret (v := styV r.fg r.bg r.at_) (by rw [RF.out, RB.out, RA.out]; simp [results, Tryz.results24, go_sem, z0, z1, z2]) rfl ⟨rfl, ?_⟩
   repeat (first | with_reducible exact HB.out | refine Below.setCell ?_ (by first | exact Xm | exact Nat.le_succ _) _)
  ·refine (PK.out B B0.out _).mono ?_; rintro e' w2 ⟨rfl, hb2⟩
   have KA := Xk (Q1.out.keep hb2 Q1.out.lt)
   have KB := Xk (Q2.out.keep hb2 Q2.out.lt)
   have KC := Xk (zk HB.out HB.out.size hb2)
   clear hb2
   obtain ⟨b0, b1, b2, i0, i1, i2⟩ := KA.out
   obtain ⟨d0, d1, d2, j0, j1, j2⟩ := KB.out
   go_wp2_with fail
   refine bodyPost_ret (v := styV r.fg r.bg r.at_) (by rw [RF.out, RB.out, RA.out]; simp [results, Tryz.results24, go_sem, d0, d1, d2]) rfl ⟨rfl, ?_⟩
   repeat (first | with_reducible exact KC.out | refine Below.setCell ?_ (by first | exact Xm | exact Nat.le_succ _) _)
  ·refine (PK.out F F0.out _).mono ?_; rintro e' w2 ⟨rfl, hb2⟩
   have KA := Xk (Q1.out.keep hb2 Q1.out.lt)
   have KB := Xk (Q2.out.keep hb2 Q2.out.lt)
   have KC := Xk (zk HB.out HB.out.size hb2)
   clear hb2
   obtain ⟨b0, b1, b2, i0, i1, i2⟩ := KA.out
   obtain ⟨d0, d1, d2, j0, j1, j2⟩ := KB.out
   go_wp2_with fail
   refine bodyPost_ret (v := styV r.fg r.bg r.at_) (by rw [RF.out, RB.out, RA.out]; simp [results, Tryz.results24, go_sem, d0, d1, d2]) rfl ⟨rfl, ?_⟩
   repeat (first | with_reducible exact KC.out | refine Below.setCell ?_ (by first | exact Xm | exact Nat.le_succ _) _)
  ·refine (PK.out F F0.out _).mono ?_; rintro e' w2 ⟨rfl, hb2⟩
   have KA := Xk (Q1.out.keep hb2 Q1.out.lt)
   have KB := Xk (Q2.out.keep hb2 Q2.out.lt)
   have KC := Xk (zk HB.out HB.out.size hb2)
   clear hb2
   obtain ⟨b0, b1, b2, i0, i1, i2⟩ := KA.out
   obtain ⟨d0, d1, d2, j0, j1, j2⟩ := KB.out
   go_wp2_with fail
   have ne : w.heap.size + 1 ≠ w.heap.size := by omega
   have L1 := Xk (KA.out.set0 (.int .i32 (zt F d)))
   have L2 := Xk (KB.out.far (b' := w.heap.size) (o := 0) (y := .int .i32 (zt F d)) ne)
   have L3 := Xk (KC.out.setCell (p := ⟨w.heap.size, 0, none⟩) Xm (.int .i32 (zt F d)))
   clear b0 b1 b2 i0 i1 i2 d0 d1 d2 j0 j1 j2 KA KB KC ne
   refine (PK.out B B0.out _).mono ?_; rintro e' w3 ⟨rfl, hb2⟩
   have KA := Xk (L1.out.keep hb2 L1.out.lt)
   have KB := Xk (L2.out.keep hb2 L2.out.lt)
   have KC := Xk (zk L3.out L3.out.size hb2)
   clear hb2
   obtain ⟨b0, b1, b2, i0, i1, i2⟩ := KA.out
   obtain ⟨d0, d1, d2, j0, j1, j2⟩ := KB.out
   go_wp2_with fail
   refine bodyPost_ret (v := styV r.fg r.bg r.at_) (by rw [RF.out, RB.out, RA.out]; simp [results, Tryz.results24, go_sem, d0, d1, d2]) rfl ⟨rfl, ?_⟩
   repeat (first | with_reducible exact KC.out | refine Below.setCell ?_ (by first | exact Xm | exact Nat.le_succ _) _)
 ·have PK := fin 44 (fun c hc => (Jk c).to (by unfold zt; rw [if_neg (by omega), if_neg (by omega), if_pos d2]))
  have g3 : (d == 1) = false := by simp; omega
  have g4 : (d == 2) = true := by simpa using d2
  clear d2
  clear fin
  by_cases f0 : F = 0
  all_goals by_cases b0 : B = 0
  all_goals
   first | (have RF : Hid (r.fg = F) := Xk (by rw [RF.out, f0, Z0.out])) | skip
   first | (have RB : Hid (r.bg = B) := Xk (by rw [RB.out, b0, Z0.out])) | skip
   have F0 := Xk f0
   have B0 := Xk b0
   first | (have g1 : (F != 0) = true := by rw [bne_iff_ne]; exact f0) | (have g1 : (F != 0) = false := by rw [f0]; rfl)
   first | (have g2 : (B != 0) = true := by rw [bne_iff_ne]; exact b0) | (have g2 : (B != 0) = false := by rw [b0]; rfl)
   clear f0 b0
   go_enter Tryz.func24, Tryz.ntmps24
   go_wp2_with fail
   refine (C0.out _).mono ?_; rintro e w1 ⟨rfl, hb1⟩
   have q1 : C3 w1 w.heap.size (.int .i32 s.fg) (.int .i32 s.bg) (.int .u8 (bI s.at_)) := C3.keep (by constructor <;> simp [go_sem]) hb1 (by simp; omega)
   have q2 : C3 w1 (w.heap.size + 1) (.int .i32 0) (.int .i32 0) (.int .u8 0) := C3.keep (by constructor <;> simp [go_sem]) hb1 (by simp)
   have hB1 : Below w.heap.size w w1 := zk (by go_grown) (by simp; omega) hb1
   clear hb1
   have ne : w.heap.size + 1 ≠ w.heap.size := by omega
   have Q1 := Xk (q1.put (.int .i32 F) (.int .i32 B) (.int .u8 (bI s.at_)))
   have Q2 := Xk (((q2.far (b' := w.heap.size) (o := 0) (y := .int .i32 F) ne).far (b' := w.heap.size) (o := 1) (y := .int .i32 B) ne).far (b' := w.heap.size) (o := 2) (y := .int .u8 (bI s.at_)) ne)
   have HB := Xk (xj hB1 Xm (.int .i32 F) (.int .i32 B) (.int .u8 (bI s.at_)))
   obtain ⟨a0, a1, a2, f0, f1, f2⟩ := q1
   obtain ⟨z0, z1, z2, y0, y1, y2⟩ := q2
   clear hB1 ne
   go_wp2_with fail
  ·refine bodyPost_ret (v := styV r.fg r.bg r.at_) (by rw [RF.out, RB.out, RA.out]; simp [results, Tryz.results24, go_sem, z0, z1, z2]) rfl ⟨rfl, ?_⟩
   repeat (first | with_reducible exact HB.out | refine Below.setCell ?_ (by first | exact Xm | exact Nat.le_succ _) _)
  ·refine (PK.out B B0.out _).mono ?_; rintro e' w2 ⟨rfl, hb2⟩
   have KA := Xk (Q1.out.keep hb2 Q1.out.lt)
   have KB := Xk (Q2.out.keep hb2 Q2.out.lt)
   have KC := Xk (zk HB.out HB.out.size hb2)
   clear hb2
   obtain ⟨b0, b1, b2, i0, i1, i2⟩ := KA.out
   obtain ⟨d0, d1, d2, j0, j1, j2⟩ := KB.out
   go_wp2_with fail
   refine bodyPost_ret (v := styV r.fg r.bg r.at_) (by rw [RF.out, RB.out, RA.out]; simp [results, Tryz.results24, go_sem, d0, d1, d2]) rfl ⟨rfl, ?_⟩
   repeat (first | with_reducible exact KC.out | refine Below.setCell ?_ (by first | exact Xm | exact Nat.le_succ _) _)
  ·refine (PK.out F F0.out _).mono ?_; rintro e' w2 ⟨rfl, hb2⟩
   have KA := Xk (Q1.out.keep hb2 Q1.out.lt)
   have KB := Xk (Q2.out.keep hb2 Q2.out.lt)
   have KC := Xk (zk HB.out HB.out.size hb2)
   clear hb2
   obtain ⟨b0, b1, b2, i0, i1, i2⟩ := KA.out
   obtain ⟨d0, d1, d2, j0, j1, j2⟩ := KB.out
   go_wp2_with fail
   refine bodyPost_ret (v := styV r.fg r.bg r.at_) (by rw [RF.out, RB.out, RA.out]; simp [results, Tryz.results24, go_sem, d0, d1, d2]) rfl ⟨rfl, ?_⟩
   repeat (first | with_reducible exact KC.out | refine Below.setCell ?_ (by first | exact Xm | exact Nat.le_succ _) _)
  ·refine (PK.out F F0.out _).mono ?_; rintro e' w2 ⟨rfl, hb2⟩
   have KA := Xk (Q1.out.keep hb2 Q1.out.lt)
   have KB := Xk (Q2.out.keep hb2 Q2.out.lt)
   have KC := Xk (zk HB.out HB.out.size hb2)
   clear hb2
   obtain ⟨b0, b1, b2, i0, i1, i2⟩ := KA.out
   obtain ⟨d0, d1, d2, j0, j1, j2⟩ := KB.out
   go_wp2_with fail
   have ne : w.heap.size + 1 ≠ w.heap.size := by omega
   have L1 := Xk (KA.out.set0 (.int .i32 (zt F d)))
   have L2 := Xk (KB.out.far (b' := w.heap.size) (o := 0) (y := .int .i32 (zt F d)) ne)
   have L3 := Xk (KC.out.setCell (p := ⟨w.heap.size, 0, none⟩) Xm (.int .i32 (zt F d)))
   clear b0 b1 b2 i0 i1 i2 d0 d1 d2 j0 j1 j2 KA KB KC ne
   refine (PK.out B B0.out _).mono ?_; rintro e' w3 ⟨rfl, hb2⟩
   have KA := Xk (L1.out.keep hb2 L1.out.lt)
   have KB := Xk (L2.out.keep hb2 L2.out.lt)
   have KC := Xk (zk L3.out L3.out.size hb2)
   clear hb2
   obtain ⟨b0, b1, b2, i0, i1, i2⟩ := KA.out
   obtain ⟨d0, d1, d2, j0, j1, j2⟩ := KB.out
   go_wp2_with fail
   refine bodyPost_ret (v := styV r.fg r.bg r.at_) (by rw [RF.out, RB.out, RA.out]; simp [results, Tryz.results24, go_sem, d0, d1, d2]) rfl ⟨rfl, ?_⟩
   repeat (first | with_reducible exact KC.out | refine Below.setCell ?_ (by first | exact Xm | exact Nat.le_succ _) _)
 ·have PK := fin 41 (fun c hc => (st_red1 c).gives.to (by unfold zt; rw [if_neg (by omega), if_neg d1, if_neg d2]))
  have g3 : (d == 1) = false := by simpa using d1
  have g4 : (d == 2) = false := by simpa using d2
  clear d1 d2
  clear fin
  by_cases f0 : F = 0
  all_goals by_cases b0 : B = 0
  all_goals
   first | (have RF : Hid (r.fg = F) := Xk (by rw [RF.out, f0, Z0.out])) | skip
   first | (have RB : Hid (r.bg = B) := Xk (by rw [RB.out, b0, Z0.out])) | skip
   have F0 := Xk f0
   have B0 := Xk b0
   first | (have g1 : (F != 0) = true := by rw [bne_iff_ne]; exact f0) | (have g1 : (F != 0) = false := by rw [f0]; rfl)
   first | (have g2 : (B != 0) = true := by rw [bne_iff_ne]; exact b0) | (have g2 : (B != 0) = false := by rw [b0]; rfl)
   clear f0 b0
   go_enter Tryz.func24, Tryz.ntmps24
   go_wp2_with fail
   refine (C0.out _).mono ?_; rintro e w1 ⟨rfl, hb1⟩
   have q1 : C3 w1 w.heap.size (.int .i32 s.fg) (.int .i32 s.bg) (.int .u8 (bI s.at_)) := C3.keep (by constructor <;> simp [go_sem]) hb1 (by simp; omega)
   have q2 : C3 w1 (w.heap.size + 1) (.int .i32 0) (.int .i32 0) (.int .u8 0) := C3.keep (by constructor <;> simp [go_sem]) hb1 (by simp)
   have hB1 : Below w.heap.size w w1 := zk (by go_grown) (by simp; omega) hb1
   clear hb1
   have ne : w.heap.size + 1 ≠ w.heap.size := by omega
   have Q1 := Xk (q1.put (.int .i32 F) (.int .i32 B) (.int .u8 (bI s.at_)))
   have Q2 := Xk (((q2.far (b' := w.heap.size) (o := 0) (y := .int .i32 F) ne).far (b' := w.heap.size) (o := 1) (y := .int .i32 B) ne).far (b' := w.heap.size) (o := 2) (y := .int .u8 (bI s.at_)) ne)
   have HB := Xk (xj hB1 Xm (.int .i32 F) (.int .i32 B) (.int .u8 (bI s.at_)))
   obtain ⟨a0, a1, a2, f0, f1, f2⟩ := q1
   obtain ⟨z0, z1, z2, y0, y1, y2⟩ := q2
   clear hB1 ne
   go_wp2_with fail
  ·refine bodyPost_ret (v := styV r.fg r.bg r.at_) (by rw [RF.out, RB.out, RA.out]; simp [results, Tryz.results24, go_sem, z0, z1, z2]) rfl ⟨rfl, ?_⟩
   repeat (first | with_reducible exact HB.out | refine Below.setCell ?_ (by first | exact Xm | exact Nat.le_succ _) _)
  ·refine (PK.out B B0.out _).mono ?_; rintro e' w2 ⟨rfl, hb2⟩
   have KA := Xk (Q1.out.keep hb2 Q1.out.lt)
   have KB := Xk (Q2.out.keep hb2 Q2.out.lt)
   have KC := Xk (zk HB.out HB.out.size hb2)
   clear hb2
   obtain ⟨b0, b1, b2, i0, i1, i2⟩ := KA.out
   obtain ⟨d0, d1, d2, j0, j1, j2⟩ := KB.out
   go_wp2_with fail
   refine bodyPost_ret (v := styV r.fg r.bg r.at_) (by rw [RF.out, RB.out, RA.out]; simp [results, Tryz.results24, go_sem, d0, d1, d2]) rfl ⟨rfl, ?_⟩
   repeat (first | with_reducible exact KC.out | refine Below.setCell ?_ (by first | exact Xm | exact Nat.le_succ _) _)
  ·refine (PK.out F F0.out _).mono ?_; rintro e' w2 ⟨rfl, hb2⟩
   have KA := Xk (Q1.out.keep hb2 Q1.out.lt)
   have KB := Xk (Q2.out.keep hb2 Q2.out.lt)
   have KC := Xk (zk HB.out HB.out.size hb2)
   clear hb2
   obtain ⟨b0, b1, b2, i0, i1, i2⟩ := KA.out
   obtain ⟨d0, d1, d2, j0, j1, j2⟩ := KB.out
   go_wp2_with fail
   refine bodyPost_ret (v := styV r.fg r.bg r.at_) (by rw [RF.out, RB.out, RA.out]; simp [results, Tryz.results24, go_sem, d0, d1, d2]) rfl ⟨rfl, ?_⟩
   repeat (first | with_reducible exact KC.out | refine Below.setCell ?_ (by first | exact Xm | exact Nat.le_succ _) _)
  ·refine (PK.out F F0.out _).mono ?_; rintro e' w2 ⟨rfl, hb2⟩
   have KA := Xk (Q1.out.keep hb2 Q1.out.lt)
   have KB := Xk (Q2.out.keep hb2 Q2.out.lt)
   have KC := Xk (zk HB.out HB.out.size hb2)
   clear hb2
   obtain ⟨b0, b1, b2, i0, i1, i2⟩ := KA.out
   obtain ⟨d0, d1, d2, j0, j1, j2⟩ := KB.out
   go_wp2_with fail
   have ne : w.heap.size + 1 ≠ w.heap.size := by omega
   have L1 := Xk (KA.out.set0 (.int .i32 (zt F d)))
   have L2 := Xk (KB.out.far (b' := w.heap.size) (o := 0) (y := .int .i32 (zt F d)) ne)
   have L3 := Xk (KC.out.setCell (p := ⟨w.heap.size, 0, none⟩) Xm (.int .i32 (zt F d)))
   clear b0 b1 b2 i0 i1 i2 d0 d1 d2 j0 j1 j2 KA KB KC ne
   refine (PK.out B B0.out _).mono ?_; rintro e' w3 ⟨rfl, hb2⟩
   have KA := Xk (L1.out.keep hb2 L1.out.lt)
   have KB := Xk (L2.out.keep hb2 L2.out.lt)
   have KC := Xk (zk L3.out L3.out.size hb2)
   clear hb2
   obtain ⟨b0, b1, b2, i0, i1, i2⟩ := KA.out
   obtain ⟨d0, d1, d2, j0, j1, j2⟩ := KB.out
   go_wp2_with fail
   refine bodyPost_ret (v := styV r.fg r.bg r.at_) (by rw [RF.out, RB.out, RA.out]; simp [results, Tryz.results24, go_sem, d0, d1, d2]) rfl ⟨rfl, ?_⟩
   repeat (first | with_reducible exact KC.out | refine Below.setCell ?_ (by first | exact Xm | exact Nat.le_succ _) _)
end
end Go.Proofs.YtifoijbpbigaaaaGreatDoor
