/- PART OF A PROOF: that the evaluator fits this program, and what it reckons of awake(). No condition. -/
import Derived.Test.YtcbdaloghdidfabGreatDoorEvPure
import Derived.Test.YtcbdaloghdidfabGreatDoorChecked
import Derived.Shelf.Spec.BitsCarry
namespace Go.Proofs.YtcbdaloghdidfabGreatDoor.flowKnown
open Go.RowKit Go.Ev
set_option maxRecDepth 100000

theorem gTab : Tryz.prog.globalNamed "stockade/insn.sizes" = some 0 := by kernel_rfl
theorem gTabType : (Tryz.prog.globals[0]?).map (·.type) = some 113 := by kernel_rfl
theorem gSize : Tryz.prog.globals.size = 1 := by kernel_rfl
theorem und269 : Tryz.prog.underlying 113 = some (.array 4 3) := by kernel_rfl
theorem undE : Tryz.prog.underlying 3 = some (.int .i64) := by kernel_rfl
theorem cells269 : Tryz.prog.cellsOf 113 = 4 := by kernel_rfl
theorem cellsE : Tryz.prog.cellsOf 3 = 1 := by kernel_rfl
theorem numAll : (Tryz.prog.funcs.all fun fn => !(fn.name == "runtime.NumGoroutine")) = true := by kernel_rfl
theorem num : NumOK Tryz.prog := fun f fn hf => by
  have h := Array.all_eq_true_iff_forall_mem.1 numAll fn (Array.mem_of_getElem? hf)
  simpa using h
theorem nat_ok : ∀ f args H r H', nat64 105 106 f args H = some (r, H') → ∀ B E R S args', VRels S args args' → Rel Tryz.prog.globals.size B S → At E R H S →
    ∃ v' S', (callFunc f args'.toArray).run Tryz.prog S.w = .ok (.value v') S'.w ∧ VRel S' r v' ∧ Behind Tryz.prog B E R S H' S' :=
  nat64_ok
    (fun x y c hx hy hc0 hc w => by
      rw [run_callFunc_extern Tryz.func105 (by kernel_rfl) (by kernel_rfl) (by kernel_rfl) (e := add64Entry) (by kernel_rfl), run_add64 x y c hx hy hc0 hc]
      rfl)
    (fun x y c hc w => by
      rw [run_callFunc_extern Tryz.func106 (by kernel_rfl) (by kernel_rfl) (by kernel_rfl) (e := sub64Entry) (by kernel_rfl), run_sub64 x y c hc]
      rfl)
/-- The table. -/
def zs : List Int := [4, 2, 1, 8]
noncomputable def K1 : Kx := kx Tryz.prog (nat64 105 106) (fun _ _ _ => none) 100000 200
theorem k1 : KOK Tryz.prog K1 := kx_ok num (fun _ h => draw_run Tryz.checked.mixed h) nat_ok (fun _ _ _ _ _ h => by cases h) 200
/-- RECKONED BY THE KERNEL: awake() is true. -/
theorem awake : Ev.isTrue (K1.call 6 [] (tabHeap 1 zs)) = true := by kernel_rfl
theorem of_isTrue {r : Option (AV × AHeap)} (h : Ev.isTrue r = true) : ∃ H', r = some (.bool true, H') := by
  unfold Ev.isTrue at h
  split at h
  · exact ⟨_, rfl⟩
  · cases h
end Go.Proofs.YtcbdaloghdidfabGreatDoor.flowKnown
