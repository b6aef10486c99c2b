
import Derived.Test.YtobljkhidgbeoaaZ33
/- A drawn region of a function with many slots: what the slots hold is kept as a list, the act as a letter. -/
namespace Go.Proofs.Ytobljkhidgbeoaa.OctE
section
variable {P : Program} {ops : Array Oper} {Q : Exit → Act → World → Prop} {md : Region.Mode} {S : World → Prop} {n : Nat} {env : List (Nat × Value)} {a : Act}
def EnvOk (a : Act) (n : Nat) (env : List (Nat × Value)) : Prop := a.tmps.size = n ∧ (∀ p ∈ env, a.tmps[p.1]? = some p.2) ∧ a.defers = []
theorem mem_of_look {env : List (Nat × Value)} {k : Nat} {v : Value} (h : env.lookup k = some v) : (k, v) ∈ env := by
  induction env with
  | nil => cases h
  | cons p env ih =>
    obtain ⟨j, u⟩ := p
    rw [List.lookup_cons] at h
    cases hb : (k == j) with
    | true =>
      rw [hb] at h
      injection h with h
      have := beq_iff_eq.1 hb
      subst this h
      exact List.mem_cons_self
    | false =>
      rw [hb] at h
      exact List.mem_cons_of_mem _ (ih h)
theorem EnvOk.get (h : EnvOk a n env) {k : Nat} {v : Value} (hl : env.lookup k = some v) : a.tmps[k]? = some v := h.2.1 _ (mem_of_look hl)
theorem EnvOk.eval (h : EnvOk a n env) {k : Nat} {v : Value} (hl : env.lookup k = some v) : a.eval (.tmp k) = v := by
  have h1 := h.get hl
  show a.tmps.getD k undef = v
  rw [Array.getD_eq_getD_getElem?, h1]
  rfl
theorem EnvOk.put (h : EnvOk a n env) {d : Nat} {v : Value} (hd : d < n) : EnvOk (a.put (some d) v) n ((d, v) :: env.filter fun p => p.1 != d) := by
  refine ⟨by show (a.tmps.setIfInBounds d v).size = n; rw [Array.size_setIfInBounds]; exact h.1, fun p hp => ?_, h.2.2⟩
  show (a.tmps.setIfInBounds d v)[p.1]? = some p.2
  rcases List.mem_cons.1 hp with rfl | hp
  · rw [Array.getElem?_setIfInBounds, if_pos rfl, if_pos (by rw [h.1]; exact hd)]
  · obtain ⟨h1, h2⟩ := List.mem_filter.1 hp
    have hne : ¬ d = p.1 := fun e => by rw [e] at h2; simp at h2
    rw [Array.getElem?_setIfInBounds, if_neg hne]
    exact h.2.1 p h1
def wantE (ops : Array Oper) (o : Oper) (env : List (Nat × Value)) : Bool := match o.guard with
  | none => true
  | some (j, want) => match (ops[j]?).bind (·.dst) with
    | some d => match env.lookup d with
      | some (.bool b) => b == want
      | _ => false
    | none => false
theorem wantE_ok {o : Oper} (h : EnvOk a n env) (hw : wantE ops o env = true) : Region.wanted o (yielded ops a.tmps) = true := by
  unfold wantE at hw
  unfold Region.wanted
  cases hg : o.guard with
  | none => rfl
  | some jw =>
    obtain ⟨j, want⟩ := jw
    rw [hg] at hw
    dsimp only at hw ⊢
    cases hd : (ops[j]?).bind (·.dst) with
    | none => rw [hd] at hw; cases hw
    | some d =>
      rw [hd] at hw
      dsimp only at hw
      cases hl : env.lookup d with
      | none => rw [hl] at hw; cases hw
      | some x =>
        rw [hl] at hw
        have h1 := h.get hl
        cases x with
        | bool b =>
          dsimp only at hw
          have : b = want := beq_iff_eq.1 hw
          subst this
          unfold yielded
          rw [hd]
          simp [h1]
        | _ => cases hw
theorem evals (h : EnvOk a n env) {es : List (Nat × Value)} (he : (es.map fun p => env.lookup p.1) = es.map fun p => some p.2) : (es.map fun p => a.eval (.tmp p.1)) = es.map (·.2) := by
  induction es with
  | nil => rfl
  | cons p es ih =>
    simp only [List.map_cons, List.cons.injEq] at he ⊢
    exact ⟨h.eval he.1, ih he.2⟩
theorem anyE_at {i d : Nat} {oi : Oper} {v : Value} {fuel : Nat} {listed : Array Bool} {w : World} (hE : EnvOk a n env) (es : List (Nat × Value)) (hi : ops[i]? = some oi) (hd : oi.dst = some d) (hdn : d < n)
    (hs : Region.noSelect ops = true) (hf : Region.free md ops listed i = true) (hr : (Region.ready md ops listed).contains i = true) (hQ : ∀ c a w, Q (.panic c) (a.put oi.dst v) w → Q (.panic c) a w)
    (hwt : wantE ops oi env = true) (hS : S w) (he : (es.map fun p => env.lookup p.1) = es.map fun p => some p.2) (hy : ∀ ev : Operand → Value, (es.map fun p => ev (.tmp p.1)) = es.map (·.2) → ∀ w, S w → (execOp ev oi).run P w = .ok (.value v) w)
    (h : ∀ a', EnvOk a' n ((d, v) :: env.filter fun p => p.1 != d) → wpAnyH P md ops Q S fuel (listed.setIfInBounds i true) a' w) : wpAnyH P md ops Q S (fuel + 1) listed a w :=
  wpAnyH_take hi hs hf hr hQ (.inl ⟨wantE_ok hE hwt, hy a.eval (evals hE he)⟩) hS (h _ (by rw [hd]; exact hE.put hdn))
theorem anyE_one {i d : Nat} {o : Oper} {fuel : Nat} {listed : Array Bool} {w : World} (hE : EnvOk a n env) (hr : Region.ready md ops listed = [i]) (ho : ops[i]? = some o) (hd : o.dst = some d) (hdn : d < n)
    (h : ∀ K' : Act → World → Prop, (∀ v w, S w → (∀ a', EnvOk a' n ((d, v) :: env.filter fun p => p.1 != d) → wpAnyH P md ops Q S fuel (listed.setIfInBounds i true) a' w) → K' (a.put o.dst v) w) → if Region.wanted o (yielded ops a.tmps) = true then Oper.wp P o a w K' Q else K' (a.put o.dst undef) w) :
    wpAnyH P md ops Q S (fuel + 1) listed a w :=
  OctL.anyH_one hr ho (fun K' hK => h K' (fun v w hS hW => hK (a.put o.dst v) w hS (hW (a.put o.dst v) (by rw [hd]; exact hE.put hdn))))
theorem step_callE {o : Oper} {K : Act → World → Prop} {E : Prop} {W : World} (hE : EnvOk a n env) (hw : wantE ops o env = true) (f : Nat) (xs : Array Operand) (ts : Array TypeId)
    (ho : o.op = .call { callee := .value (.func f), args := xs, argTypes := ts }) (es : List (Nat × Value)) (hx : xs.toList = es.map fun p => .tmp p.1) (he : (es.map fun p => env.lookup p.1) = es.map fun p => some p.2) (fn : Func) (hf : P.funcs[f]? = some fn) (hn : (fn.name == "runtime.NumGoroutine") = false) (hb : fn.body.isNone = false)
    (h : Calls P f (es.map (·.2)).toArray W (fun e w' => ∃ v, e = .returned v ∧ K (a.put o.dst v) w')) :
    if Region.wanted o (yielded ops a.tmps) = true then Oper.wp P o a W K Q else E := by
  have hv : xs.toList.map a.eval = ((es.map (·.2)).toArray).toList := by
    rw [hx, List.map_map]
    exact evals hE he
  have hw' := wantE_ok hE hw
  generalize (es.map (·.2)).toArray = vals at hv h
  exact OctL.step_callW (P := P) (ops := ops) (o := o) (a := a) (K := K) (Q := Q) (E := E) (W := W) hw' f xs ts ho vals hv fn hf hn hb h
theorem with_env {fuel : Nat} {listed : Array Bool} {w : World} (n : Nat) (env : List (Nat × Value)) (hn : a.tmps.size = n) (hds : a.defers = []) (he : (env.map fun p => a.tmps[p.1]?) = env.map fun p => some p.2) (h : ∀ a', EnvOk a' n env → wpAnyH P md ops Q S fuel listed a' w) : wpAnyH P md ops Q S fuel listed a w := by
  refine h a ⟨hn, ?_, hds⟩
  clear h
  induction env with
  | nil => intro p hp; cases hp
  | cons q env ih =>
    simp only [List.map_cons, List.cons.injEq] at he
    intro p hp
    rcases List.mem_cons.1 hp with rfl | hp
    · exact he.1
    · exact ih he.2 p hp
end
end Go.Proofs.Ytobljkhidgbeoaa.OctE
