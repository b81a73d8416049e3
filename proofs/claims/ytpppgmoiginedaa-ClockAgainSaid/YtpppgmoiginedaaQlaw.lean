/- From a contract in values to a law's own contract. -/
import Derived.Test.YtpppgmoiginedaaQz
import Derived.Below
namespace Go.Proofs.Ytpppgmoiginedaa.Q
open Go Go.RowKit
theorem sim_nil (w : World) : Sim w Heap.nil := fun b o h => by cases h
theorem law_of_Tr {P : Program} {f : FuncId} {args : List V} {vs : Array Value} {w : World} (h : Tr P f args Heap.nil fun v _ => v = .val (.bool true)) (hA : argsReal w (imm w Heap.nil) args vs.toList) :
    Calls P f vs w fun e w' => e = .returned (.bool true) ∧ Below w.heap.size w w' := by
  refine (h.2 w vs (sim_nil w) hA).mono ?_
  rintro e w' ⟨v, c, H', rfl, hE, _, hr, rfl⟩
  unfold real at hr
  exact ⟨by rw [hr.1], hE.os, hE.tape, hE.output, hE.size, fun k hk => (hE.keep k ⟨hk, rfl⟩).1⟩
end Go.Proofs.Ytpppgmoiginedaa.Q
