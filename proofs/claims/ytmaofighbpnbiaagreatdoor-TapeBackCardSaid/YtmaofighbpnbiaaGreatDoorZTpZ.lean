/- One byte turned is another tape (plain). -/
import Derived.Test.YtmaofighbpnbiaaGreatDoorZTpT
import Derived.Test.YtmaofighbpnbiaaGreatDoorZTpQ
namespace Go.Proofs.YtmaofighbpnbiaaGreatDoor
set_option linter.unusedVariables false
set_option linter.unusedSimpArgs false
/-- ONE BYTE TURNED, IT IS NOT THE SAME TAPE -/
theorem turned {w h : Int} {l : List Frm} {b : List Int} (e : encT w h l = (b, 0)) (hb : ∀ f ∈ l, Byt f.bs) (k : Nat) (hk : k < b.length) (x : Int) (h0 : 0 ≤ x) (h1 : x < 256) (ne : x ≠ b.getD k 0) (hd : decT (b.set k x) = ⟨w, h, l, 0, 0⟩) : False := by
  have rg : Byt (b.set k x) := fun y m => (List.mem_or_eq_of_mem_set m).elim (enc_byt e hb y) (fun q => by rw [q]; exact ⟨h0, h1⟩)
  have z := enc_dec (b.set k x) rg (by rw [hd])
  rw [hd] at z
  simp only at z
  rw [e] at z
  simp only [Prod.mk.injEq, and_true] at z
  apply ne
  have := congrArg (fun l => l.getD k 0) z
  simp only [List.getD_eq_getElem?_getD, List.getElem?_set_self hk] at this
  rw [List.getD_eq_getElem?_getD, this]
  rfl
end Go.Proofs.YtmaofighbpnbiaaGreatDoor
