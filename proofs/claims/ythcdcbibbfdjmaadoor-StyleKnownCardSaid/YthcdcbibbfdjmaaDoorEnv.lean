/- What the laid variables hold, and that it stays. -/
import Derived.Test.YthcdcbibbfdjmaaDoorHex
import Derived.Test.YthcdcbibbfdjmaaDoorDec
import Derived.Test.YthcdcbibbfdjmaaDoorPuP
import Derived.WalkSmall
namespace Go.Proofs.YthcdcbibbfdjmaaDoor
open Go.RowKit

/-- the tables -/
structure EnvT (w : World) : Prop where
  tab : Lib.TabIs Tryd.prog w "internal/strconv.uint64pow10" .u64 Lib.pow10Tab
  bg : 8 < w.heap.size
  bc : w.cell? ⟨8, 15, none⟩ = some (.int .u8 4)
  pg : 5 < w.heap.size

/-- the tables and the two errors -/
structure Env (w : World) : Prop extends EnvT w where
  sg : 3 < w.heap.size
  rg : 4 < w.heap.size
  es : ∃ ev, w.cell? ⟨3, 0, none⟩ = some ev ∧ (ev = .nilIface ∨ ∃ te pe, ev = .iface te pe)
  er : ∃ ev, w.cell? ⟨4, 0, none⟩ = some ev ∧ (ev = .nilIface ∨ ∃ te pe, ev = .iface te pe)

theorem EnvT.of_below {B : Nat} {w w' : World} (h : EnvT w) (hb : Below B w w') (hB : w.heap.size ≤ B) : EnvT w' where
  tab := var?_below (g := 5) hb (by kernel_rfl) (Nat.lt_of_lt_of_le h.pg hB) h.tab
  bg := Nat.lt_of_lt_of_le h.bg hb.size
  bc := (hb.cell (p := ⟨8, 15, none⟩) (Nat.lt_of_lt_of_le h.bg hB)).trans h.bc
  pg := Nat.lt_of_lt_of_le h.pg hb.size

theorem Env.of_below {B : Nat} {w w' : World} (h : Env w) (hb : Below B w w') (hB : w.heap.size ≤ B) : Env w' where
  toEnvT := h.toEnvT.of_below hb hB
  sg := Nat.lt_of_lt_of_le h.sg hb.size
  rg := Nat.lt_of_lt_of_le h.rg hb.size
  es := h.es.imp fun _ e => ⟨(hb.cell (p := ⟨3, 0, none⟩) (Nat.lt_of_lt_of_le h.sg hB)).trans e.1, e.2⟩
  er := h.er.imp fun _ e => ⟨(hb.cell (p := ⟨4, 0, none⟩) (Nat.lt_of_lt_of_le h.rg hB)).trans e.1, e.2⟩
end Go.Proofs.YthcdcbibbfdjmaaDoor
