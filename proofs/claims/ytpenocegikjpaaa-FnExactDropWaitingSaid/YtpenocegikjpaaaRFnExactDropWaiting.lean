/- The law FnExactDropWaiting answers true, and what comes in reads behind the call as it read before.
   Its conditions: none. -/
import Derived.Test.YtpenocegikjpaaaRows
import Derived.Test.YtpenocegikjpaaaF3
import Derived.Test.YtpenocegikjpaaaF1
import Derived.WalkKit
import Derived.ProofKit
import Derived.OpenShut
import Derived.ShutString
import Derived.ChangeOld
import Derived.Below
import Derived.SizedLaws
import Derived.Carry
namespace Go.Proofs.Ytpenocegikjpaaa.fnExactDropWaiting
open Go.ChangeShapes Go.WideShapes Go.ChangeAt Go.RowKit
open Go.Ab (law_calls Opn trodAll_stays weights_of argInt argBool argStr NoOwn AC)
set_option linter.unusedVariables false
theorem own : ownKnob Try.prog.godebug = none := by kernel_rfl

set_option maxRecDepth 100000 in
theorem lifted (os : Os) (started : os.Started) (H : Type) (enc : TypeId × Value → H) :
    ReturnsInHanded {} Try.checked os 9 .any (Rows.fnExactDropWaitingSpec.pre6 enc Try.prog Try.f9 Rows.fnExactDropWaitingRow.domain false) (Rows.fnExactDropWaitingSpec.post enc Try.prog Try.f9 false true false false) := by
  refine returnsInHanded_of_change_sized (C := Try.checked) own started (by kernel_rfl) Try.func9
    (ChangeSpec.witness6 (enc := enc) (C := Try.checked) false ⟨#[], #[.agg #[.string .empty, .slice none 0 0, .slice none 0 0, .slice none 0 0, .int .i64 0, .int .i64 0, .int .i64 0, .int .i64 0, .slice none 0 0, .slice none 0 0], .int .i64 0], []⟩ 8 (by kernel_rfl) (by kernel_rfl) (by kernel_rfl) (by kernel_rfl)) ?_
  intro W base args ds gs before hval0 hW hcnd hsz0 _
  have hW' := hW
  obtain ⟨p, q, hA0, hV, rfl, hfz, hnd⟩ := hW
  have hA : DataW.TrodAll enc Try.prog W 0 (fun _ => true) true Try.f9.params.toList args.toList ds p := hA0
  rw [Try.params9] at hA
  have hst := hA
  obtain ⟨v0, v1, d0, d1, q0, q1, rfl, rfl, rfl, g0, g1⟩ := trodAll_two hA
  obtain ⟨rfl, rfl⟩ := trodVars_none hV
  refine (law_calls (Opn.app (argMch (hval0 0 53 v0 rfl rfl) g0 (weights_of hsz0 (j := 0) rfl rfl)) (argInt Try.underlying3 (hval0 1 3 v1 rfl rfl) g1) (by rintro h h' l k ⟨M0, vW0, vC0, vM0, vL0, vQ0, LW0, LC0, LM0, LL0, LQ0, rfl, r0, z0⟩; exact ⟨M0, vW0, vC0, vM0, vL0, vQ0, LW0, LC0, LM0, LL0, LQ0, rfl, r0.kp0 k, z0⟩)) ?_).mono fun e W' ⟨he, bel⟩ => ?_
  · rintro h l ⟨_, _, rfl, ⟨M0, vW0, vC0, vM0, vL0, vQ0, LW0, LC0, LM0, LL0, LQ0, rfl, r0, z0⟩, ⟨n1, rfl, w1⟩⟩ no
    exact fnExactDropWaiting_ac r0 z0 w1
  subst he
  exact ⟨_, rfl, _, _, _, [], _, [], hW', trodAll_mk1 (shut_bool Try.underlying4 _), trodAll_stays (by kernel_rfl) bel (by kernel_rfl) hst, rfl, bel.frame _, fun h => by cases h⟩
theorem over : Rows.fnExactDropWaitingRow.holds Try.pinned (OpenSpec.ofChange Rows.fnExactDropWaitingSpec) :=
  OpenClaim.holds_of_wide 9 Try.f9 rfl rfl rfl rfl rfl rfl rfl ⟨rfl, rfl, rfl, rfl, rfl⟩ rfl rfl rfl rfl rfl (by kernel_rfl) Try.func9 (by kernel_rfl)
    (of_decide_eq_true (by kernel_rfl)) (by unfold Func.isWrapper; first | (rw [if_pos (by decide +kernel)]; kernel_rfl) | (rw [if_neg (by decide +kernel)]; exact ⟨rfl, rfl⟩))
    (fun os started H enc _ => lifted os started H enc)
theorem proved : Rows.FnExactDropWaitingSaid := over
#print axioms proved
end Go.Proofs.Ytpenocegikjpaaa.fnExactDropWaiting
namespace Go.Proofs.Ytpenocegikjpaaa
/-- The row, under a short name, for the claim. -/
theorem fnExactDropWaiting_holds : Rows.FnExactDropWaitingSaid := fnExactDropWaiting.proved
end Go.Proofs.Ytpenocegikjpaaa
