/- Regions that draw their order and hold calls that change named blocks. Nothing of the program. -/
import Derived.Test.YtafhncpaoolljaaMix
import Derived.Test.YtafhncpaoolljaaMem
namespace Go.Proofs.Ytafhncpaoolljaa
set_option maxRecDepth 100000
set_option linter.unusedVariables false
open Go Go.RowKit

theorem GrS.of_upd {S K : List Nat} {w w' : World} (u : Upd K w w') (hs : ∀ k, k ∈ K → k ∈ S) : GrS S w w' :=
  ⟨u.os, u.tape, u.output, u.size, fun i hi hn => u.block i hi (fun h => hn (hs i h))⟩
theorem GrS.upd {S : List Nat} {w w' : World} (u : GrS S w w') : Upd S w w' := ⟨u.os, u.tape, u.output, u.size, u.block⟩
theorem Gr.upd {w w' : World} (u : Gr w w') : Upd [] w w' := Upd.of_below u
section
variable {P : Program} {W : World} {S : List Nat} {T : (World → Prop) → List Nat → Act → Prop} {L : List (Oper × Kd)} {F : World → Prop} {N : List Nat} {a : Act} {o : Oper}
/-- A call that changes blocks of S, and leaves facts. -/
theorem gm_callS {f : FuncId} {l : List Operand} {ts : Array TypeId} (vl : List Value) (hb : goesB P f = true) (ho : o.op = .call { callee := .value (.func f), args := l.toArray, argTypes := ts }) (hv : l.map a.eval = vl)
    (h : ∀ w, GrS S W w → F w → Calls P f vl.toArray w (fun e w' => ∃ v, e = .returned v ∧ GrS S w w' ∧ ∃ F', Stb F' ∧ F' w' ∧ wpG P W S T L F' N (a.put o.dst v))) : wpG P W S T ((o, .cha) :: L) F N a :=
  fun w hw hFw => .inl ⟨f, vl.toArray, exec_call hb ho hv w, (h w hw hFw).mono fun _ w' ⟨v, hv, hg, F', hs, hF, hr⟩ => ⟨v, hv, hg.d, F', [], hs, hF, fun _ hb => (by cases hb), hr⟩⟩
end
end Go.Proofs.Ytafhncpaoolljaa
