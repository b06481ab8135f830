/- The law FnExactKeyText answers true, and what comes in reads behind the call as it read before.
   Its conditions: none. -/
import Derived.Test.YtpenocegikjpaaaRows
import Derived.Test.YtpenocegikjpaaaF5
import Derived.Test.YtpenocegikjpaaaF1
import Derived.WalkKit
import Derived.ProofKit
import Derived.OpenShut
import Derived.ShutString
import Derived.ChangeOld
import Derived.Below
import Derived.SizedLaws
import Derived.Carry
namespace Go.Proofs.Ytpenocegikjpaaa.fnExactKeyText
open Go.ChangeShapes Go.WideShapes Go.ChangeAt Go.RowKit
open Go.Ab (law_calls Opn trodAll_stays weights_of argInt argBool argStr NoOwn AC)
set_option linter.unusedVariables false
theorem own : ownKnob Try.prog.godebug = none := by kernel_rfl

set_option maxRecDepth 100000 in
theorem lifted (os : Os) (started : os.Started) (H : Type) (enc : TypeId × Value → H) :
    ReturnsInHanded {} Try.checked os 10 .any (Rows.fnExactKeyTextSpec.pre6 enc Try.prog Try.f10 Rows.fnExactKeyTextRow.domain false) (Rows.fnExactKeyTextSpec.post enc Try.prog Try.f10 false true false false) := by
  refine returnsInHanded_of_change_sized (C := Try.checked) own started (by kernel_rfl) Try.func10
    (ChangeSpec.witness6 (enc := enc) (C := Try.checked) false ⟨#[], #[.agg #[.string .empty, .slice none 0 0, .slice none 0 0, .slice none 0 0, .int .i64 0, .int .i64 0, .int .i64 0, .int .i64 0, .slice none 0 0, .slice none 0 0], .string .empty], []⟩ 8 (by kernel_rfl) (by kernel_rfl) (by kernel_rfl) (by kernel_rfl)) ?_
  intro W base args ds gs before hval0 hW hcnd hsz0 _
  have hW' := hW
  obtain ⟨p, q, hA0, hV, rfl, hfz, hnd⟩ := hW
  have hA : DataW.TrodAll enc Try.prog W 0 (fun _ => true) true Try.f10.params.toList args.toList ds p := hA0
  rw [Try.params10] at hA
  have hst := hA
  obtain ⟨v0, v1, d0, d1, q0, q1, rfl, rfl, rfl, g0, g1⟩ := trodAll_two hA
  obtain ⟨rfl, rfl⟩ := trodVars_none hV
  refine (law_calls (Opn.app (argMch (hval0 0 53 v0 rfl rfl) g0 (weights_of hsz0 (j := 0) rfl rfl)) (argStr Try.underlying9 (hval0 1 9 v1 rfl rfl) g1 (weights_of hsz0 (j := 1) rfl rfl)) (by rintro h h' l k ⟨M0, vW0, vC0, vM0, vL0, vQ0, LW0, LC0, LM0, LL0, LQ0, rfl, r0, z0⟩; exact ⟨M0, vW0, vC0, vM0, vL0, vQ0, LW0, LC0, LM0, LL0, LQ0, rfl, r0.kp0 k, z0⟩)) ?_).mono fun e W' ⟨he, bel⟩ => ?_
  · rintro h l ⟨_, _, rfl, ⟨M0, vW0, vC0, vM0, vL0, vQ0, LW0, LC0, LM0, LL0, LQ0, rfl, r0, z0⟩, ⟨s1, rfl, z1⟩⟩ no
    exact fnExactKeyText_ac r0 z0 z1
  subst he
  exact ⟨_, rfl, _, _, _, [], _, [], hW', trodAll_mk1 (shut_bool Try.underlying4 _), trodAll_stays (by kernel_rfl) bel (by kernel_rfl) hst, rfl, bel.frame _, fun h => by cases h⟩
theorem over : Rows.fnExactKeyTextRow.holds Try.pinned (OpenSpec.ofChange Rows.fnExactKeyTextSpec) :=
  OpenClaim.holds_of_wide 10 Try.f10 rfl rfl rfl rfl rfl rfl rfl ⟨rfl, rfl, rfl, rfl, rfl⟩ rfl rfl rfl rfl rfl (by kernel_rfl) Try.func10 (by kernel_rfl)
    (of_decide_eq_true (by kernel_rfl)) (by unfold Func.isWrapper; first | (rw [if_pos (by decide +kernel)]; kernel_rfl) | (rw [if_neg (by decide +kernel)]; exact ⟨rfl, rfl⟩))
    (fun os started H enc _ => lifted os started H enc)
theorem proved : Rows.FnExactKeyTextSaid := over
#print axioms proved
end Go.Proofs.Ytpenocegikjpaaa.fnExactKeyText
namespace Go.Proofs.Ytpenocegikjpaaa
/-- The row, under a short name, for the claim. -/
theorem fnExactKeyText_holds : Rows.FnExactKeyTextSaid := fnExactKeyText.proved
end Go.Proofs.Ytpenocegikjpaaa
