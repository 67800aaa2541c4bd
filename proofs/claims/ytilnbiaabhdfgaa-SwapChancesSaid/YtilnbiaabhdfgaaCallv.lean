/-
  A call through a function value whose function is a variable: laws at the operation. Over any program.
-/
import Derived.WalkKit
import GoSem.Dispatch
namespace Go.Proofs.Ytilnbiaabhdfgaa
set_option linter.unusedVariables false
set_option linter.unusedSimpArgs false
open Go.RowKit

/-- Function number fid is one with a Go body. -/
def Goes (P : Program) (fid : FuncId) : Prop := ∀ args w, (callFunc fid args).run P w = .ok (.enter fid args) w
theorem goes_of {P : Program} {fid : FuncId} {fn : Func} (hf : P.funcs[fid]? = some fn) (hn : (fn.name == "runtime.NumGoroutine") = false) (hb : fn.body.isNone = false) : Goes P fid := fun args w => by
  simp only [callFunc, program, bind, Sem.bind, Sem.run, hf, hn, hb, Bool.false_eq_true, if_false, pure]

section
variable {P : Program} {ops : Array Oper} {rest : List Oper} {o : Oper} {a : Act} {Q : Exit → Act → World → Prop} {w : World}
theorem wpList_callv0 (fid : FuncId) (cap : Array Value) (f : Operand) (ts : Array TypeId) (ho : o.op = .call { callee := .value f, args := #[], argTypes := ts }) (hgd : o.guard = none)
    (hf : a.eval f = .func (.func fid) #[] cap) (hgo : Goes P fid)
    (h : Calls P fid (#[] ++ cap) w fun e w'' => ∃ v, e = .returned v ∧ wpList P ops Q rest (a.put o.dst v) w'') : wpList P ops Q (o :: rest) a w :=
  wpList_plain hgd fun K hK => by
    have hg := hgo (#[] ++ cap) w
    simp only [Array.empty_append] at hg h
    unfold Oper.wp execOp
    simp only [ho, resolve, Deferred.ofValue, invoke, hf, Sem.run_bind, Sem.run_pure, Result.andThen_ok, Array.map_empty, Array.empty_append, hg, Oper.upon]
    refine h.mono ?_
    rintro e w'' ⟨v, rfl, hw⟩
    exact hK _ _ hw
theorem wpList_callv1 (fid : FuncId) (cap : Array Value) (f x : Operand) (v1 : Value) (ts : Array TypeId) (ho : o.op = .call { callee := .value f, args := #[x], argTypes := ts }) (hgd : o.guard = none)
    (hf : a.eval f = .func (.func fid) #[] cap) (hx : a.eval x = v1) (hgo : Goes P fid)
    (h : Calls P fid (#[v1] ++ cap) w fun e w'' => ∃ v, e = .returned v ∧ wpList P ops Q rest (a.put o.dst v) w'') : wpList P ops Q (o :: rest) a w :=
  wpList_plain hgd fun K hK => by
    have hg := hgo (#[v1] ++ cap) w
    unfold Oper.wp execOp
    simp only [ho, resolve, Deferred.ofValue, invoke, hf, Sem.run_bind, Sem.run_pure, Result.andThen_ok, List.map_toArray, List.map_cons, List.map_nil, hx, Array.empty_append, hg, Oper.upon]
    refine h.mono ?_
    rintro e w'' ⟨v, rfl, hw⟩
    exact hK _ _ hw
/-- With bound arguments ahead (a method value). -/
theorem wpList_callf1 (fid : FuncId) (first cap : Array Value) (f x : Operand) (v1 : Value) (ts : Array TypeId) (ho : o.op = .call { callee := .value f, args := #[x], argTypes := ts }) (hgd : o.guard = none)
    (hf : a.eval f = .func (.func fid) first cap) (hx : a.eval x = v1) (hgo : Goes P fid)
    (h : Calls P fid ((first ++ #[v1]) ++ cap) w fun e w'' => ∃ v, e = .returned v ∧ wpList P ops Q rest (a.put o.dst v) w'') : wpList P ops Q (o :: rest) a w :=
  wpList_plain hgd fun K hK => by
    have hg := hgo ((first ++ #[v1]) ++ cap) w
    unfold Oper.wp execOp
    simp only [ho, resolve, Deferred.ofValue, invoke, hf, Sem.run_bind, Sem.run_pure, Result.andThen_ok, List.map_toArray, List.map_cons, List.map_nil, hx, hg, Oper.upon]
    refine h.mono ?_
    rintro e w'' ⟨v, rfl, hw⟩
    exact hK _ _ hw
end
end Go.Proofs.Ytilnbiaabhdfgaa
