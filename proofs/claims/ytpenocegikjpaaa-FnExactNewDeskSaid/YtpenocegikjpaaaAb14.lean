/- From a contract over the empty heap to the call in any world. -/
import Derived.Test.YtpenocegikjpaaaAb13
namespace Go.Ab
open Go.RowKit

theorem Stp.below {ρ ρ' : Rho} {h h' : Heap} {w w' : World} (st : Stp [] ρ h w ρ' h' w') : Below w.heap.size w w' :=
  ⟨st.os, st.tape, st.output, st.size, fun k hk => st.frame k hk (by rintro ⟨i, o, k, hi, _⟩; cases hi)⟩

theorem Sim.empty (w : World) : Sim (fun _ => none) [] w := ⟨fun i k e => (nomatch e), fun i o e => (nomatch e), fun i j oi oj ki kj e => (nomatch e)⟩

/-- A law without parameters. -/
theorem AC.closed {P : Program} {f : FuncId} {T : List Nat} {Q : Value → Heap → Prop} (ha : AC P f [] [] T Q) (hq : ∀ r h', Q r h' → r = .bool true) (w : World) :
    Calls P f #[] w fun e w' => e = .returned (.bool true) ∧ Below w.heap.size w w' := by
  refine (ha.2 (fun _ => none) w #[] (Sim.empty w) (VRL.nil _)).mono ?_
  rintro e w' ⟨rv, r, h', ρ', rfl, hQ, hvr, hsim, hst⟩
  have hr := hq r h' hQ
  subst hr
  have e1 := closed_eq (v := .bool true) rfl hvr
  subst e1
  refine ⟨rfl, hst.os, hst.tape, hst.output, hst.size, fun k hk => hst.frame k hk ?_⟩
  rintro ⟨i, o, k, hi, e, _⟩
  cases e
end Go.Ab
