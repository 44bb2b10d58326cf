/- The document's writer: Digits and Move (walk). -/
import Derived.Test.YtifoijbpbigaaaaGreatDoorDaFE
set_option linter.unusedVariables false
set_option linter.unusedSimpArgs false
namespace Go.Proofs.YtifoijbpbigaaaaGreatDoor
section
open Go Go.RowKit Go.Sort
section
theorem vZ (m : Nat) (h : 10 <= m) : Lib.decDigits m = Lib.decDigits (m / 10) ++ [UInt8.ofNat (48 + m % 10)] := by rw [Lib.decDigits, dif_neg (by omega)]
theorem v7 (m : Nat) (h : m < 10) : Lib.decDigits m = [UInt8.ofNat (48 + m % 10)] := by rw [Lib.decDigits, dif_pos h, Nat.mod_eq_of_lt h]
theorem dec_le : ∀ n : Nat, (Lib.decDigits n).length <= n + 1 := fun n => by
 induction n using Nat.strongRecOn with
 | ind n ih =>
  by_cases c : n < 10
  ·rw [v7 n c]; simp
  ·rw [vZ n (by omega), List.length_append, List.length_singleton]
   have := ih (n / 10) (by omega)
   omega
theorem cat_mk2 (a b : List UInt8) : (⟨a.toArray⟩ : ByteArray) ++ ⟨b.toArray⟩ = ⟨(a ++ b).toArray⟩ := by
 apply ByteArray.ext
 simp [ByteArray.data_append]
theorem itB_nat (n : Nat) : itB (n : Int) = ⟨(Lib.decDigits n).toArray⟩ := by
 unfold itB Lib.itoa
 rw [if_neg (by omega)]
 rfl
theorem conv_one (w : World) (b : UInt8) : (convert 66 9 (.slice (some ⟨w.heap.size, 0, none⟩) 1 1)).run Tryz.prog (w.alloc (.cells #[.int .u8 (b.toNat : Int)] 5)) = .ok (.string ⟨#[b]⟩) (w.alloc (.cells #[.int .u8 (b.toNat : Int)] 5)) :=
 run_convert_bytes_back (P := Tryz.prog) (w.alloc (.cells #[.int .u8 (b.toNat : Int)] 5)) 66 9 5 ⟨w.heap.size, 0, none⟩ 1 [b] Tryz.underlying66 Tryz.underlying5 Tryz.underlying9 (fun j hj => by
  have e : j = 0 := by simp at hj; exact hj
  subst e
  exact (qL w [.int .u8 (b.toNat : Int)] 5) 0 _ rfl)
theorem Jo (n : Int) (h : 0 <= n) : itB n = ⟨(Lib.decDigits n.toNat).toArray⟩ := by
 unfold itB Lib.itoa
 rw [if_neg (by omega)]
set_option maxHeartbeats 8000000 in
set_option maxRecDepth 100000 in
theorem v8 (n : Int) (h0 : 0 <= n) (h : n <= 100000000) (w : World) : Calls Tryz.prog 71 #[.int .i64 n] w fun e w' => e = .returned (.string (itB n)) /\ Below w.heap.size w w' := by
 have DL := Vd (dec_le n.toNat)
 have IT := Vd (Jo n h0)
 generalize itB n = OUT at *
 have HH := Vd h
 clear h
 go_enter Tryz.func71, Tryz.ntmps71
 go_wp2_with fail
 go_loopw [0, 3] (fun s0 s3 wr => ∃ (m : Int) (acc : List UInt8), 0 <= m /\ m <= n /\ Hid (Lib.decDigits n.toNat = Lib.decDigits m.toNat ++ acc) /\ s0 = .int .i64 m /\ s3 = .string ⟨acc.toArray⟩ /\ Below w.heap.size w wr) (fun s0 _ _ => (intOf s0).toNat)
 case atStart => exact ⟨n, [], h0, Int.le_refl _, Vd (by simp), rfl, rfl, Below.refl _ _⟩
 case round =>
  obtain ⟨m, acc, m0, hm, hd, rfl, rfl, hb⟩ := hrel
  have h := HH.out
  have AL : acc.length <= n.toNat + 1 := by
   have e := congrArg List.length hd.out
   have := DL.out
   rw [List.length_append] at e
   omega
  have sz : (⟨acc.toArray⟩ : ByteArray).size = acc.length := by simp [ByteArray.size]
  obtain ⟨b, hbb⟩ : ∃ b, b = UInt8.ofNat (48 + m.toNat % 10) := ⟨_, rfl⟩
  have bn : (b.toNat : Int) = 48 + m % 10 := by rw [hbb, UInt8.toNat_ofNat']; omega
  have RC := conv_one wr b
  rw [bn] at RC
  have HD := Vd hd.out
  have HBB := Vd hbb
  have key : Hid ((⟨#[b]⟩ : ByteArray) ++ ⟨acc.toArray⟩ = ⟨(b :: acc).toArray⟩) := Vd (cat_mk2 [b] acc)
  have HB2 := Vd (hb.alloc hb.size (.cells #[.int .u8 (48 + m % 10)] 5))
  have z1 : (9223372036854775807 < 1 + (⟨acc.toArray⟩ : ByteArray).size) = False := by
   rw [sz]
   exact eq_false (by omega)
  have m1 : m <= 100000000 := by omega
  have HM := Vd hm
  generalize (⟨acc.toArray⟩ : ByteArray) = ACC at *
  clear hbb bn hd hb sz hm AL h
  by_cases c : m / 10 = 0
  ·have C := Vd c
   go_wp2_with fail
   go_ret
   refine ⟨?_, HB2.out⟩
   have e1 := v7 m.toNat (by have := C.out; omega)
   rw [key.out, IT.out, HD.out, e1, <- HBB.out]
   rfl
  ·have C := Vd c
   go_wp2_with fail
   go_roundw
   case rel =>
    have e1 := vZ m.toNat (by have := C.out; omega)
    have e2 : m.toNat / 10 = (m / 10).toNat := by omega
    exact ⟨m / 10, b :: acc, by omega, by have := HM.out; omega, Vd (by rw [HD.out, e1, <- HBB.out, e2, List.append_assoc]; rfl), rfl, by rw [key.out], HB2.out⟩
   case measure => simp [intOf]; have := C.out; omega
set_option maxHeartbeats 8000000 in
set_option maxRecDepth 100000 in
theorem Jp (x y : Int) (x0 : 0 <= x) (x1 : x <= 10000000) (y0 : 0 <= y) (y1 : y <= 10000000) (w : World) : Calls Tryz.prog 54 #[.int .i64 x, .int .i64 y] w fun e w' => e = .returned (.string (zH x y)) /\ Below w.heap.size w w' := by
 have D1 := Vd (fun W => v8 (y + 1) (by omega) (by omega) W)
 have D2 := Vd (fun W => v8 (x + 1) (by omega) (by omega) W)
 have MB : Hid (zH x y = (((⟨#[27, 91]⟩ ++ itB (y + 1)) ++ ⟨#[59]⟩) ++ itB (x + 1)) ++ ⟨#[72]⟩) := Vd rfl
 have s1 := jD (y + 1) (by omega) (by omega)
 have s2 := jD (x + 1) (by omega) (by omega)
 generalize zH x y = OUT at *
 generalize itB (y + 1) = P at *
 generalize itB (x + 1) = R at *
 go_enter Tryz.func54, Tryz.ntmps54
 go_wp2_with fail
 refine (D1.out _).mono ?_; rintro e w1 ⟨rfl, b1⟩
 have HB1 := Vd b1
 have J2 := Vd (D2.out w1)
 have z1 : (9223372036854775807 < 2 + P.size) = False := eq_false (by omega)
 have z2 : (9223372036854775807 < 2 + P.size + 1) = False := eq_false (by omega)
 have z3 : (9223372036854775807 < 2 + P.size + 1 + R.size) = False := eq_false (by omega)
 have z4 : (9223372036854775807 < 2 + P.size + 1 + R.size + 1) = False := eq_false (by omega)
 clear b1 D1 D2
 go_wp2_with fail
 refine J2.out.mono ?_; rintro e w2 ⟨rfl, b2⟩
 have HB2 := Vd (HB1.out.trans (b2.mono HB1.out.size))
 clear b2 J2
 go_wp2_with fail
 go_ret
 exact ⟨by rw [MB.out]; rfl, HB2.out⟩
theorem itB_ne (n : Int) (h : 0 <= n) : (itB n).size ≠ 0 := fun z => by
 rw [Jo n h] at z
 have z : (Lib.decDigits n.toNat).length = 0 := by simpa [ByteArray.size] using z
 by_cases c : n.toNat < 10
 ·rw [v7 _ c] at z; simp at z
 ·rw [vZ _ (by omega), List.length_append] at z; simp at z
theorem semi_ne (L : List Int) (h : ∀ n ∈ L, 0 <= n /\ n < 1000) (k : Nat) (k0 : 0 < k) (hk : k <= L.length) : zU (L.take k) ≠ zB := fun z => by
 obtain ⟨j, rfl⟩ : ∃ j, k = j + 1 := ⟨k - 1, by omega⟩
 rw [List.take_succ_eq_append_getElem (show j < L.length by omega), kI] at z
 have := congrArg ByteArray.size z
 rw [ByteArray.size_append] at this
 have b := itB_ne L[j] (h _ (List.getElem_mem _)).1
 have : (zB : ByteArray).size = 0 := rfl
 omega
set_option maxHeartbeats 16000000 in
set_option maxRecDepth 100000 in
theorem Kw (f t : Sty) (hff : zh f.fg) (hfb : zh f.bg) (htf : zh t.fg) (htb : zh t.bg) (w : World) : Calls Tryz.prog 69 #[styV f.fg f.bg f.at_, styV t.fg t.bg t.at_] w fun e w' => e = .returned (.string (zI f t)) /\ Below w.heap.size w w' := by
 have PR := Vd (xt f t)
 have SL := Vd (vB (zR f t) (xt f t))
 have SN := Vd (semi_ne (zR f t) (xt f t))
 have PL := vc f t
 have TB : Hid (zI f t = if zU (zR f t) = zB then zB else (⟨#[27, 91]⟩ ++ zU (zR f t)) ++ ⟨#[109]⟩) := Vd rfl
 have PA := Vd (fun W => XC f t hff hfb htf htb W)
 generalize zI f t = R at *
 generalize zR f t = L at *
 clear hff hfb htf htb
 go_enter Tryz.func69, Tryz.ntmps69
 go_wp2_with fail
 refine (PA.out _).mono ?_; rintro e w1 ⟨v, rfl, ho, hb⟩
 obtain ⟨A, c, rfl⟩ := qT ho
 have S1 := Vd (Sees.of_own ho)
 have B1 := Vd (show Below w.heap.size w w1 from zl (by go_grown) (by simp; omega) hb)
 obtain ⟨n, hn⟩ : ∃ n, n = L.length := ⟨_, rfl⟩
 rw [<- hn] at PL ⊢
 have HN := Vd hn
 clear ho hb hn
 go_wp2_with fail
 go_loopw [6, 7] (fun s i wr => ∃ (k : Nat) (S : ByteArray), k <= n /\ i = .int .i64 k /\ s = .string S /\ Hid (S = zU (L.take k)) /\ S.size <= 22 * k /\ Hid (Below w1.heap.size w1 wr)) (fun _ i _ => n - (intOf i).toNat)
 case atStart => exact ⟨0, zB, Nat.zero_le _, rfl, rfl, Vd rfl, by decide, Vd (Below.refl _ _)⟩
 case round =>
  obtain ⟨k, S, hk, rfl, rfl, hS, hsz, hb⟩ := hrel
  by_cases lt : k < n
  ·have kl : k < L.length := by rw [<- HN.out]; exact lt
   obtain ⟨ad, rfl, ab, ac⟩ := S1.out.at (k := k) (by simpa [ints] using kl)
   have ac : w1.cell? (ad.add k) = some (.int .i64 L[k]) := by simpa [ints] using ac
   have ac := (hb.out.cell (p := ad.add k) (by rw [zj]; exact ab)).trans ac
   have rg := PR.out L[k] (List.getElem_mem _)
   have NX : Hid (zU (L.take (k + 1)) = (if S = zB then S else S ++ ⟨#[59]⟩) ++ itB L[k]) := Vd (by
    rw [List.take_succ_eq_append_getElem kl, kI, <- hS.out])
   have IS := jD L[k] (by omega) (by omega)
   have NS : Hid ((zU (L.take (k + 1))).size <= 22 * (k + 1)) := Vd (SL.out (k + 1) (by omega))
   have IT := Vd (fun W => v8 L[k] (by omega) (by omega) W)
   have wk := Ve ((k : Int) + 1) (by omega)
   have q0 : (0 : Int) <= (k : Int) := by omega
   have q5 : (k : Int) < (n : Int) := by omega
   have tn : (k : Int).toNat = k := by omega
   generalize L[k] = x at *
   have s59 : (⟨#[59]⟩ : ByteArray).size = 1 := rfl
   by_cases z : k = 0
   ·have Z : Hid (S = zB) := Vd (by rw [hS.out, z]; rfl)
    have p0 : decide (0 < k) = false := by rw [z]; rfl
    have NX : Hid (zU (L.take (k + 1)) = S ++ itB x) := Vd (by rw [NX.out, if_pos Z.out])
    have z1 : (9223372036854775807 < S.size + (itB x).size) = False := eq_false (by omega)
    generalize itB x = I at *
    clear hS SN SL z
    go_wp2_with fail
    refine (IT.out _).mono ?_; rintro e w2 ⟨rfl, hb2⟩
    have B2 := Vd (zl hb.out hb.out.size hb2)
    clear hb2 hb
    go_wp2_with fail
    go_roundw
    case rel => exact ⟨k + 1, _, by omega, by go_num, rfl, Vd NX.out.symm, by rw [<- NX.out]; exact NS.out, B2⟩
    case measure => simp [intOf]; omega
   ·have p0 : (0 : Int) < (k : Int) := by omega
    have Z : Hid (S ≠ zB) := Vd (by rw [hS.out]; exact SN.out k (by omega) (by omega))
    have NX : Hid (zU (L.take (k + 1)) = (S ++ ⟨#[59]⟩) ++ itB x) := Vd (by rw [NX.out, if_neg Z.out])
    have z1 : (9223372036854775807 < S.size + 1) = False := eq_false (by omega)
    have z2 : (9223372036854775807 < S.size + 1 + (itB x).size) = False := eq_false (by omega)
    generalize itB x = I at *
    clear hS SN SL z
    go_wp2_with fail
    refine (IT.out _).mono ?_; rintro e w2 ⟨rfl, hb2⟩
    have B2 := Vd (zl hb.out hb.out.size hb2)
    clear hb2 hb
    go_wp2_with fail
    go_roundw
    case rel => exact ⟨k + 1, _, by omega, by go_num, rfl, Vd NX.out.symm, by rw [<- NX.out]; exact NS.out, B2⟩
    case measure => simp [intOf]; omega
  ·have e : k = n := by omega
   subst e
   have e2 : L.take k = L := List.take_of_length_le (by rw [<- HN.out]; exact Vf)
   rw [e2] at hS
   have BB := Vd (B1.out.trans (hb.out.mono B1.out.size))
   have q5 : ¬ (k : Int) < (k : Int) := by omega
   by_cases z : k = 0
   ·have L0 : L = [] := List.eq_nil_of_length_eq_zero (by rw [<- HN.out]; exact z)
    have R1 : Hid (R = zB) := Vd (by rw [TB.out, L0]; rfl)
    subst z
    clear hS hb e2 L0
    go_wp2_with fail
    go_ret
    exact ⟨by rw [R1.out]; rfl, BB.out⟩
   ·have Z : Hid (S ≠ zB) := Vd (by rw [hS.out, <- e2]; exact SN.out k (by omega) (by rw [<- HN.out]; exact Vf))
    have R1 : Hid (R = (⟨#[27, 91]⟩ ++ S) ++ ⟨#[109]⟩) := Vd (by rw [TB.out, <- hS.out, if_neg Z.out])
    have z0 : ¬ (k : Int) = 0 := by omega
    have z1 : (9223372036854775807 < 2 + S.size) = False := eq_false (by omega)
    have z2 : (9223372036854775807 < 2 + S.size + 1) = False := eq_false (by omega)
    clear hS hb e2 z
    go_wp2_with fail
    go_ret
    exact ⟨by rw [R1.out]; rfl, BB.out⟩
end
end
end Go.Proofs.YtifoijbpbigaaaaGreatDoor
