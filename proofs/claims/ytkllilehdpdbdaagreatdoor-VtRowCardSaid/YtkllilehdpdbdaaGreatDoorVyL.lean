/- The law's shows. -/
import Derived.Test.YtkllilehdpdbdaaGreatDoorVyPb
import Derived.Lib.ConvBytes
namespace Go.Proofs.YtkllilehdpdbdaaGreatDoor
open Go Go.RowKit Go.Sort
set_option linter.unusedVariables false
set_option linter.unusedSimpArgs false
section
variable {W W' : World}
theorem bytes_below (V : World) (s : ByteArray) : Below V.heap.size V (Lib.bytesWorld V 5 s) := ⟨rfl, rfl, rfl, by rw [Lib.bytesWorld_size]; omega, fun k hk => Lib.bytesWorld_at_old V _ s k hk⟩
theorem fed_bytes {V : World} {F : List Nat} (s : ByteArray) (hF : ∀ b ∈ F, b < V.heap.size) : FedAt (Lib.bytesWorld V 5 s) F (some ⟨V.heap.size, 0, none⟩) (byL s) := FedAt.new (fun k hk => by
  have hk2 : k < s.size := by rw [← byL_len s]; exact hk
  refine ⟨_, rfl, Nat.le_refl _, by rw [Lib.bytesWorld_size]; exact Nat.lt_succ_self _, ?_⟩
  rw [add_at, Nat.zero_add, Lib.bytesWorld_cell V _ s k hk2]
  unfold byL
  rw [List.getD_eq_getElem?_getD, List.getD_eq_getElem?_getD, List.getElem?_map]
  have : k < s.data.toList.length := by simpa using hk2
  rw [List.getElem?_eq_getElem this]
  rfl) hF
set_option maxHeartbeats 8000000 in
set_option maxRecDepth 100000 in
theorem law_shows (text first second : ByteArray) (x y : Int) (sh : Bool) (T : Trm) (hT : T = feedT (newV 5 3) (byL text)) (sz : text.size ≤ 1000) (hs : seenT T = ⟨5, 3, T.cells, x, y, sh⟩) (hl : T.cells.length = 15) (r0 : textsF T.cells 0 5 = first) (r1 : textsF T.cells 5 5 = second) (ht : ∀ c ∈ T.cells, c.text.size ≤ 1000) (W : World) (E : EnvV W) :
    Calls Tryz.prog 18 #[.string text, .string first, .string second, .int .i64 x, .int .i64 y] W fun e w' => e = .returned (.bool true) ∧ Below W.heap.size W w' := by
  have NW := Lib.hid (t_New 5 3 (by decide) (by decide) (by decide) (by decide) (by decide) W E)
  have CV := fun (w : World) => Lib.run_convert_string_bytes (P := Tryz.prog) w 9 29 5 text Tryz.underlying9 Tryz.underlying29 Tryz.underlying5
  have FT : Fine T := by rw [hT]; exact (live_feed (byL text) wk_live (byL_rng text)).1.fine
  have HS := Lib.hid hs
  have HL := Lib.hid hl
  have R0 := Lib.hid r0
  have R1 := Lib.hid r1
  have HT := Lib.hid hT
  have TX := Lib.hid ht
  have FT := Lib.hid FT
  have SZ := Lib.hid sz
  clear E hs hl r0 r1 hT ht sz
  go_enter Tryz.func18, Tryz.ntmps18
  go_wp2_with fail
  refine NW.out.mono ?_; rintro e V ⟨nb, rfl, hb, hge, hn⟩
  obtain ⟨F, h2, up, hF⟩ := hn.holdAt (bytes_below V text)
  have FD := fed_bytes (V := V) (F := F) text hF
  have FE : Hid (Calls Tryz.prog 16 #[.pointer (some ⟨nb, 0, none⟩), .slice (some ⟨V.heap.size, 0, none⟩) text.size (grownCap V text.size 0 5)] (Lib.bytesWorld V 5 text) fun e w' => e = .returned (.int .i64 0) ∧ St (Lib.bytesWorld V 5 text) F nb T w') := Lib.hid (by
    have := t_Feed h2 wk_live (some ⟨V.heap.size, 0, none⟩) (grownCap V text.size 0 5) (byL text) (by rw [byL_len]; have := SZ.out; omega) (by rw [byL_len]; show 0 + text.size ≤ _; have := SZ.out; omega) (byL_rng text) FD
    rw [byL_len, ← HT.out] at this
    exact this)
  have UP := Lib.hid up
  clear NW hb hge hn h2 up hF FD
  go_wp2_with fail
  refine FE.out.mono ?_; rintro e w3 ⟨rfl, h3⟩
  have S3 := UP.out _ _ h3
  have SC := Lib.hid (t_Screen S3 FT.out)
  have S3 := Lib.hid S3
  clear FE UP h3 CV
  go_wp2_with fail
  refine SC.out.mono ?_; rintro e w4 ⟨A, c, rfl, NR, hb4⟩
  rw [HS.out]
  rw [HL.out] at NR
  have S4 := S3.out.below hb4
  obtain ⟨V5, hV5⟩ : ∃ V5, V5 = w4.alloc (.cells #[.int .i64 5, .int .i64 3, .slice A 15 c, .int .i64 x, .int .i64 y, .bool sh] 42) := ⟨_, rfl⟩
  have B5 : Below w4.heap.size w4 V5 := by rw [hV5]; exact (Below.refl _ w4).alloc (Nat.le_refl _) _
  have K5 : Bk V5 w4.heap.size [.int .i64 5, .int .i64 3, .slice A 15 c, .int .i64 x, .int .i64 y, .bool sh] 42 := by rw [hV5]; exact Bk.new w4 _ _
  have S5 := Lib.hid (S4.below B5)
  have N5 := Lib.hid (NR.below B5)
  have sv : scrV ⟨5, 3, T.cells, x, y, sh⟩ A c = .agg #[.int .i64 5, .int .i64 3, .slice A 15 c, .int .i64 x, .int .i64 y, .bool sh] := by unfold scrV; rw [HL.out]
  rw [sv]
  clear SC S3 NR hb4 S4 B5
  go_upto_region 5 with fail
  rw [← hV5]
  clear hV5
  have j0 := K5.c 0 _ rfl
  have j1 := K5.c 1 _ rfl
  have j2 := K5.c 2 _ rfl
  have j3 := K5.c 3 _ rfl
  have j4 := K5.c 4 _ rfl
  have j5 := K5.c 5 _ rfl
  have L0 : Hid (∀ X, Below V5.heap.size V5 X → Calls Tryz.prog 40 #[.agg #[.int .i64 5, .int .i64 3, .slice A 15 c, .int .i64 x, .int .i64 y, .bool sh], .int .i64 0] X fun e w' => e = .returned (.string first) ∧ Below X.heap.size X w') := Lib.hid (fun X hb => by
    have := law_row ⟨5, 3, T.cells, x, y, sh⟩ A c 0 X (by show (0 : Int) ≤ 5; decide) (by show (5 : Int) ≤ 4096; decide) (by rw [HL.out]; show (((0 : Nat) : Int) + 1) * 5 ≤ ((15 : Nat) : Int); decide) (by decide) (by rw [HL.out]; decide) TX.out (by rw [HL.out]; exact (N5.out.below hb).1)
    rw [sv] at this
    exact this.mono (fun e w' ⟨h1, h2⟩ => ⟨by rw [h1]; exact congrArg (fun z => Ending.returned (.string z)) R0.out, h2⟩))
  have L1 : Hid (∀ X, Below V5.heap.size V5 X → Calls Tryz.prog 40 #[.agg #[.int .i64 5, .int .i64 3, .slice A 15 c, .int .i64 x, .int .i64 y, .bool sh], .int .i64 1] X fun e w' => e = .returned (.string second) ∧ Below X.heap.size X w') := Lib.hid (fun X hb => by
    have := law_row ⟨5, 3, T.cells, x, y, sh⟩ A c 1 X (by show (0 : Int) ≤ 5; decide) (by show (5 : Int) ≤ 4096; decide) (by rw [HL.out]; show (((1 : Nat) : Int) + 1) * 5 ≤ ((15 : Nat) : Int); decide) (by decide) (by rw [HL.out]; decide) TX.out (by rw [HL.out]; exact (N5.out.below hb).1)
    rw [sv] at this
    exact this.mono (fun e w' ⟨h1, h2⟩ => ⟨by rw [h1]; exact congrArg (fun z => Ending.returned (.string z)) R1.out, h2⟩))
  have K5 := Lib.hid K5
  clear sv
  go_wp2_with fail
  refine (L0.out V5 (Below.refl _ _)).mono ?_; rintro e w6 ⟨rfl, hb6⟩
  have H6 := Lib.hid hb6
  have K6 := K5.out.of_eq (hb6.block _ K5.out.lt)
  clear hb6 j0 j1 j2 j3 j4 j5
  have j0 := K6.c 0 _ rfl
  have j1 := K6.c 1 _ rfl
  have j2 := K6.c 2 _ rfl
  have j3 := K6.c 3 _ rfl
  have j4 := K6.c 4 _ rfl
  have j5 := K6.c 5 _ rfl
  have K6 := Lib.hid K6
  go_wp2_with fail
  refine (L1.out w6 H6.out).mono ?_; rintro e w7 ⟨rfl, hb7⟩
  have K7 := K6.out.of_eq (hb7.block _ K6.out.lt)
  have H7 := H6.out.trans (hb7.mono H6.out.size)
  have B9 := Lib.hid (old_mv (S5.out.below H7).mv)
  clear hb7 j0 j1 j2 j3 j4 j5 K6 L0 L1 N5 S5 H6 H7
  have j0 := K7.c 0 _ rfl
  have j1 := K7.c 1 _ rfl
  have j2 := K7.c 2 _ rfl
  have j3 := K7.c 3 _ rfl
  have j4 := K7.c 4 _ rfl
  have j5 := K7.c 5 _ rfl
  clear K7
  go_wp2_with fail
  go_ret
  exact ⟨rfl, B9.out⟩
end
end Go.Proofs.YtkllilehdpdbdaaGreatDoor
