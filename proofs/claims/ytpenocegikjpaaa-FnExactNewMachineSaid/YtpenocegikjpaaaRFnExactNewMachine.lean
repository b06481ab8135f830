/- The law FnExactNewMachine answers true, and what comes in reads behind the call as it read before.
   Its conditions: none. -/
import Derived.Test.YtpenocegikjpaaaRows
import Derived.Test.YtpenocegikjpaaaF6
import Derived.Test.YtpenocegikjpaaaF1
import Derived.WalkKit
import Derived.ProofKit
import Derived.OpenShut
import Derived.ShutString
import Derived.ChangeOld
import Derived.Below
import Derived.SizedLaws
import Derived.Carry
namespace Go.Proofs.Ytpenocegikjpaaa.fnExactNewMachine
open Go.ChangeShapes Go.WideShapes Go.ChangeAt Go.RowKit
open Go.Ab (law_calls Opn trodAll_stays weights_of argInt argBool argStr NoOwn AC)
set_option linter.unusedVariables false
theorem own : ownKnob Try.prog.godebug = none := by kernel_rfl

set_option maxRecDepth 100000 in
theorem lifted (os : Os) (started : os.Started) (H : Type) (enc : TypeId × Value → H) :
    ReturnsInHanded {} Try.checked os 6 .any (Rows.fnExactNewMachineSpec.pre6 enc Try.prog Try.f6 Rows.fnExactNewMachineRow.domain false) (Rows.fnExactNewMachineSpec.post enc Try.prog Try.f6 false true false false) := by
  refine returnsInHanded_of_change_sized (C := Try.checked) own started (by kernel_rfl) Try.func6
    (ChangeSpec.witness6 (enc := enc) (C := Try.checked) false ⟨#[], #[.agg #[.string .empty, .slice none 0 0, .slice none 0 0], .int .i64 0, .int .i64 0, .agg #[.int .i64 0, .int .i64 0, .int .i64 0]], []⟩ 8 (by kernel_rfl) (by kernel_rfl) (by kernel_rfl) (by kernel_rfl)) ?_
  intro W base args ds gs before hval0 hW hcnd hsz0 _
  have hW' := hW
  obtain ⟨p, q, hA0, hV, rfl, hfz, hnd⟩ := hW
  have hA : DataW.TrodAll enc Try.prog W 0 (fun _ => true) true Try.f6.params.toList args.toList ds p := hA0
  rw [Try.params6] at hA
  have hst := hA
  obtain ⟨v0, v1, v2, v3, d0, d1, d2, d3, q0, q1, q2, q3, rfl, rfl, rfl, g0, g1, g2, g3⟩ := trodAll_four hA
  obtain ⟨rfl, rfl⟩ := trodVars_none hV
  refine (law_calls (Opn.app (argFnt (hval0 0 48 v0 rfl rfl) g0 (weights_of hsz0 (j := 0) rfl rfl)) (Opn.app (argInt Try.underlying3 (hval0 1 3 v1 rfl rfl) g1) (Opn.app (argInt Try.underlying3 (hval0 2 3 v2 rfl rfl) g2) (argMsr (hval0 3 50 v3 rfl rfl) g3) (by rintro h h' l k ⟨n2, rfl, w2⟩; exact ⟨n2, rfl, w2⟩)) (by rintro h h' l k ⟨n1, rfl, w1⟩; exact ⟨n1, rfl, w1⟩)) (by rintro h h' l k ⟨F0, vW0, vC0, LW0, LC0, rfl, r0, z0⟩; exact ⟨F0, vW0, vC0, LW0, LC0, rfl, r0.kp0 k, z0⟩)) ?_).mono fun e W' ⟨he, bel⟩ => ?_
  · rintro h l ⟨_, _, rfl, ⟨F0, vW0, vC0, LW0, LC0, rfl, r0, z0⟩, ⟨_, _, rfl, ⟨n1, rfl, w1⟩, ⟨_, _, rfl, ⟨n2, rfl, w2⟩, ⟨S3, rfl⟩⟩⟩⟩ no
    exact fnExactNewMachine_ac r0 z0 w1 w2 S3
  subst he
  exact ⟨_, rfl, _, _, _, [], _, [], hW', trodAll_mk1 (shut_bool Try.underlying4 _), trodAll_stays (by kernel_rfl) bel (by kernel_rfl) hst, rfl, bel.frame _, fun h => by cases h⟩
theorem over : Rows.fnExactNewMachineRow.holds Try.pinned (OpenSpec.ofChange Rows.fnExactNewMachineSpec) :=
  OpenClaim.holds_of_wide 6 Try.f6 rfl rfl rfl rfl rfl rfl rfl ⟨rfl, rfl, rfl, rfl, rfl⟩ rfl rfl rfl rfl rfl (by kernel_rfl) Try.func6 (by kernel_rfl)
    (of_decide_eq_true (by kernel_rfl)) (by unfold Func.isWrapper; first | (rw [if_pos (by decide +kernel)]; kernel_rfl) | (rw [if_neg (by decide +kernel)]; exact ⟨rfl, rfl⟩))
    (fun os started H enc _ => lifted os started H enc)
theorem proved : Rows.FnExactNewMachineSaid := over
#print axioms proved
end Go.Proofs.Ytpenocegikjpaaa.fnExactNewMachine
namespace Go.Proofs.Ytpenocegikjpaaa
/-- The row, under a short name, for the claim. -/
theorem fnExactNewMachine_holds : Rows.FnExactNewMachineSaid := fnExactNewMachine.proved
end Go.Proofs.Ytpenocegikjpaaa
