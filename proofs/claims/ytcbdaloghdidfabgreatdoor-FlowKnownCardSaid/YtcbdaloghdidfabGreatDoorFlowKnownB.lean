/- PART OF A PROOF: what the evaluator reckons of FlowKnown(). No condition. -/
import Derived.Test.YtcbdaloghdidfabGreatDoorFlowKnownA
namespace Go.Proofs.YtcbdaloghdidfabGreatDoor.flowKnown
open Go.RowKit Go.Ev
set_option maxRecDepth 100000

noncomputable def K2 : Kx := kx Tryz.prog (nat64 105 106) (know 4 (tabTr zs 0 .nil) [(6, true)]) 100000 200
theorem k2 : KOK Tryz.prog K2 := kx_ok num (fun _ h => draw_run Tryz.checked.mixed h) nat_ok
  (know_ok (zs := zs) (by rw [gSize]; exact Nat.one_pos) k1 (fun f b h => by
    have h : (f, b) = (6, true) := by simpa using h
    cases h
    rw [gSize]
    exact of_isTrue awake)) 200
/-- RECKONED BY THE KERNEL: FlowKnown() is true. -/
theorem known : Ev.isTrue (K2.call 3 [] (tabHeap 1 zs)) = true := by kernel_rfl

end Go.Proofs.YtcbdaloghdidfabGreatDoor.flowKnown
