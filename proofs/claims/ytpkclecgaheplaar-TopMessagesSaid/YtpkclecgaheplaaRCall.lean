import Derived.Test.YtpkclecgaheplaaRMem
namespace Go.Proofs.YtpkclecgaheplaaR.Oct
/-- one step of a region that draws: a call of a Go function, met by its contract -/
theorem step_call {P : Program} {ops : Array Oper} {o : Oper} {a : Act} {K : Act → World → Prop} {Q : Exit → Act → World → Prop} {E : Prop} {W : World} (hgd : o.guard = none) (n : Nat) (xs : Array Operand) (ts : Array TypeId)
    (ho : o.op = .call { callee := .value (.func n), args := xs, argTypes := ts }) (vals : Array Value) (hv' : xs.toList.map a.eval = vals.toList) (fn : Func) (hf : P.funcs[n]? = some fn) (hn : (fn.name == "runtime.NumGoroutine") = false) (hb : fn.body.isNone = false)
    (h : Calls P n vals W (fun e w' => ∃ v, e = .returned v ∧ K (a.put o.dst v) w')) :
    if Region.wanted o (yielded ops a.tmps) = true then Oper.wp P o a W K Q else E := by
  have hw : Region.wanted o (yielded ops a.tmps) = true := by simp [Region.wanted, hgd]
  rw [if_pos hw]
  have hv : xs.map a.eval = vals := by
    apply Array.toList_inj.1
    rw [Array.toList_map]
    exact hv'
  subst hv
  have hn' : ¬ fn.name = "runtime.NumGoroutine" := by simpa using hn
  have hb' : ¬ fn.body = none := by intro e; rw [e] at hb; simp at hb
  unfold Oper.wp
  simp [execOp, ho, resolve, invoke, Result.andThen, Deferred.ofValue, Act.eval, callFunc, hf, hn', hb']
  refine h.mono ?_
  rintro e w' ⟨v, rfl, hk⟩
  exact hk
end Go.Proofs.YtpkclecgaheplaaR.Oct
