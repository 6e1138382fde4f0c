/- A call through a function value that a slot holds, by its contract (for regions that draw their order); Nat lengths of small numbers. No condition. -/
import Derived.Test.YtmcajdepoohlhaaCKeepWLast
import Derived.Test.YtmcajdepoohlhaaCKeepWWords
namespace Go.Proofs.Ytmcajdepoohlhaa.G
open Go.RowKit Go.Proofs.YtmcajdepoohlhaaW.PrintWords Go.Proofs.YtmcajdepoohlhaaW.PrintLast
/-- A call through a function value that a slot holds. -/
theorem goesV_ {P : Program} {ops : Array Oper} {Q : Exit → Act → World → Prop} {oi : Oper} {N : Option Tmp} {a : Act} {w : World} {K : Act → World → Prop} {f : FuncId} {fn : Func} {as : Array Operand} {ts : Array TypeId} {x : Operand} (hf : P.funcs[f]? = some fn) (hname : (fn.name == "runtime.NumGoroutine") = false) (hb : fn.body.isSome = true) (args : Array Value)
    (hw : Region.wanted oi (yielded ops a.tmps) = true) (hN : oi.dst = N) (hop : oi.op = .call { callee := .value x, args := as, argTypes := ts }) (hx : a.eval x = .func (.func f) #[] #[]) (hargs : as.map a.eval = args)
    (h : Calls P f args w fun e w' => ∃ v, e = .returned v ∧ K (a.put N v) w') : if Region.wanted oi (yielded ops a.tmps) = true then Oper.wp P oi a w K Q else K (a.put N undef) w := by
  refine call_ f args hw hN ?_ h
  have he := enters_ hf hname hb args w
  unfold execOp
  simp [hop, resolve, Deferred.ofValue, invoke, hx, hargs, he]
/-- An index that is one less than another one lies before it. -/
theorem wrap_pred {x z : Int} (E : wrap64 (x - 1) = z) (hx : 0 ≤ x) (hz : 0 ≤ z) : z.toNat < x.toNat := by
  unfold wrap64 at E
  omega
end Go.Proofs.Ytmcajdepoohlhaa.G
