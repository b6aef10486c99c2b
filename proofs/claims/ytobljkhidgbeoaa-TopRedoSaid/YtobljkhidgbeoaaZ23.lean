import Derived.OrdersHeld
import Derived.OrdersIn
import Derived.OwnWalkIn
import Derived.Test.YtobljkhidgbeoaaZ21
import Derived.Test.YtobljkhidgbeoaaZ22
/- (As HeldIn, and inside a round too.) A region that draws its order, inside a fence, with a condition on the world that stands behind each operation: what yields in every world that meets it is taken first. -/
namespace Go.Proofs.Ytobljkhidgbeoaa.OctR
section
variable {F : Fence} {n : Nat} {P : Program} {ops : Array Oper} {Q : Exit → Act → World → Prop} {md : Region.Mode} {S : World → Prop}
/-- no defer statement -/
def plainOps (ops : Array Oper) : Bool := ops.toList.all fun o => match o.op with | .defer _ => false | _ => true
theorem plainOps_spec (h : plainOps ops = true) {i : Nat} {o : Oper} (hi : ops[i]? = some o) : ∀ c, o.op ≠ .defer c := fun c e => by
  have h1 := List.all_eq_true.1 h o (by have := List.mem_of_getElem? (l := ops.toList) (i := i) (by simpa using hi); exact this)
  rw [e] at h1
  cases h1
def YieldsS (P : Program) (ops : Array Oper) (S : World → Prop) (o : Oper) (v : Value) (a : Act) : Prop := YieldsIf P ops S o v a ∧ ∀ w, o.about P w a.eval = none
theorem YieldsS.op {i : Nat} {o : Oper} {v : Value} {a : Act} (hro : plainOps ops = true) (hi : ops[i]? = some o) (hy : YieldsS P ops S o v a) {K : Act → World → Prop} {w : World} (hS : S w) (h : K (a.put o.dst v) w) : wpOpIn F n P ops Q i K a w := by
  unfold wpOpIn
  simp only [hi]
  have hab : ∀ f, o.about P w a.eval = some f → F.fn f := fun f hf => by rw [hy.2 w] at hf; cases hf
  rcases hy.1 with ⟨hw, hv⟩ | ⟨hw, rfl⟩
  · simp only [hw, if_true, Oper.wpIn, Oper.semAt_plain F _ _ (plainOps_spec hro hi), hv w hS, Oper.uponIn]; exact ⟨hab, h⟩
  · simp only [hw, Bool.false_eq_true, if_false]; exact ⟨hab, h⟩
theorem YieldsS.same {o : Oper} {v : Value} {a a' : Act} (hy : YieldsS P ops S o v a) (he : execOp a'.eval o = execOp a.eval o) (hw : Region.wanted o (yielded ops a'.tmps) = Region.wanted o (yielded ops a.tmps)) (hb : ∀ w, o.about P w a'.eval = o.about P w a.eval) : YieldsS P ops S o v a' :=
  ⟨hy.1.of_same he hw, fun w => by rw [hb w]; exact hy.2 w⟩
theorem opIn_put {j : Nat} {oi oj : Oper} {v : Value} (hro : plainOps ops = true) (hj : ops[j]? = some oj) (hap : oi.apart ops oj = true) (hsi : ∀ cs b, oi.op ≠ .select cs b) (hsj : ∀ cs b, oj.op ≠ .select cs b)
    (hQ : ∀ c a w, Q (.panic c) (a.put oi.dst v) w → Q (.panic c) a w) {K : Act → World → Prop} {a : Act} {w : World} (hy : YieldsS P ops S oi v a) (h : wpOpIn F n P ops Q j K (a.put oi.dst v) w) :
    wpOpIn F n P ops Q j (fun a' w' => YieldsS P ops S oi v a' ∧ K (a'.put oi.dst v) w') a w := by
  obtain ⟨h1, h2, h3⟩ := Oper.apart_spec hap
  have hpj := plainOps_spec hro hj
  have keep : ∀ (a : Act), YieldsS P ops S oi v a → ∀ u, YieldsS P ops S oi v (a.put oj.dst u) := fun a hy u =>
    hy.same (execOp_put oi hsi a oj.dst u h3) (wanted_put oi a oj.dst u h3) (fun w => about_put oi w a oj.dst u h3)
  have keepD : ∀ d, YieldsS P ops S oi v { a with defers := d :: a.defers } := fun d => hy.same rfl rfl (fun _ => rfl)
  unfold wpOpIn at *
  simp only [hj] at *
  rw [wanted_put oj a oi.dst v h1, about_put oj w a oi.dst v h1] at h
  split
  · rename_i hw
    simp only [hw, if_true] at h
    unfold Oper.wpIn at *
    rw [about_put oj w a oi.dst v h1] at h
    refine ⟨h.1, ?_⟩
    have h := h.2
    rw [Oper.semAt_plain F _ _ hpj, execOp_put oj hsj a oi.dst v h1] at h
    rw [Oper.semAt_plain F _ _ hpj]
    generalize (execOp a.eval oj).run P w = r at *
    cases r with
    | ok x w' =>
      cases x <;> simp only [Oper.uponIn] at h ⊢
      case value u => exact ⟨keep a hy u, by rw [← Act.put_comm a v u h2]; exact h⟩
      case skip => exact ⟨keep a hy _, by rw [← Act.put_comm a v undef h2]; exact h⟩
      case defer d =>
        refine ⟨keep _ (keepD d) _, ?_⟩
        rw [← Act.put_comm _ v undef h2, ← Act.put_defers]
        exact h
      case enter f args =>
        refine ⟨h.1, CallsIn.mono h.2 fun e w'' he => ?_⟩
        cases e with
        | returned u => exact ⟨keep a hy u, by rw [← Act.put_comm a v u h2]; exact he⟩
        | panicked c => exact hQ _ _ _ he
        | outgrown => exact he
      case row row args => exact ⟨h.1, RowsIn.mono h.2 fun u w'' he => ⟨keep a hy u, by rw [← Act.put_comm a v u h2]; exact he⟩⟩
      case round l f tmps assign body =>
        refine ⟨h.1, RoundIn.mono h.2 fun e w'' he => ?_⟩
        cases e with
        | returned u => exact ⟨keep a hy u, by rw [← Act.put_comm a v u h2]; exact he⟩
        | panicked c => exact hQ _ _ _ he
        | outgrown => exact he
    | halt x w' =>
      cases x <;> simp only [Oper.uponIn] at h ⊢
      case panic u => exact hQ _ _ _ h
  · rename_i hw
    simp only [hw] at h
    exact ⟨h.1, keep a hy _, by rw [← Act.put_comm a v undef h2]; exact h.2⟩
def anyS (F : Fence) (n : Nat) (P : Program) (md : Region.Mode) (ops : Array Oper) (Q : Exit → Act → World → Prop) (S : World → Prop) : Nat → Array Bool → Act → World → Prop
  | 0, listed, a, w => Region.ready md ops listed = [] ∧ Q .normal a w
  | fuel + 1, listed, a, w => (Region.ready md ops listed = [] → Q .normal a w) ∧ ∀ i ∈ Region.ready md ops listed, wpOpIn F n P ops Q i (fun a' w' => S w' ∧ anyS F n P md ops Q S fuel (listed.setIfInBounds i true) a' w') a w
theorem any_of_S : ∀ (fuel : Nat) (listed : Array Bool) (a : Act) (w : World), anyS F n P md ops Q S fuel listed a w → wpAnyIn F n P md ops Q fuel listed a w
  | 0, _, _, _, h => h
  | fuel + 1, _, _, _, h => ⟨h.1, fun i hi => wpOpIn_mono (fun a' w' h' => any_of_S fuel _ a' w' h'.2) (h.2 i hi)⟩
theorem anyS_first {i : Nat} {oi : Oper} {v : Value} (hro : plainOps ops = true) (hi : ops[i]? = some oi) (hsel : ∀ (j : Nat) (o : Oper) cs b, ops[j]? = some o → o.op ≠ .select cs b) (hQ : ∀ c a w, Q (.panic c) (a.put oi.dst v) w → Q (.panic c) a w) :
    ∀ (fuel : Nat) (listed : Array Bool) (a : Act) (w : World), (∀ j oj, ops[j]? = some oj → j ≠ i → listed.getD j true = false → (∀ e ∈ oj.after, Region.binds md e = true → e.on ≠ i) → oi.apart ops oj = true) →
      i ∈ Region.ready md ops listed → YieldsS P ops S oi v a → S w → anyS F n P md ops Q S fuel (listed.setIfInBounds i true) (a.put oi.dst v) w → anyS F n P md ops Q S (fuel + 1) listed a w := by
  intro fuel
  induction fuel with
  | zero =>
    intro listed a w _ hr hy hS H
    refine ⟨fun h => (by rw [h] at hr; cases hr), fun j hj => ?_⟩
    by_cases hji : j = i
    · subst hji; exact hy.op hro hi hS ⟨hS, H⟩
    · have := ready_mono hj hji
      rw [H.1] at this
      cases this
  | succ fuel ih =>
    intro listed a w hfree hr hy hS H
    refine ⟨fun h => (by rw [h] at hr; cases hr), fun j hj => ?_⟩
    by_cases hji : j = i
    · subst hji; exact hy.op hro hi hS ⟨hS, H⟩
    · have h1 := H.2 j (ready_mono hj hji)
      obtain ⟨hjun, oj, hoj, hall⟩ := mem_ready.1 hj
      have hnot : ∀ e ∈ oj.after, Region.binds md e = true → e.on ≠ i := fun e he hb heq => by
        have h1 := hall e he hb
        have h0 := (mem_ready.1 hr).1
        rw [heq] at h1
        rcases Nat.lt_or_ge i listed.size with h' | h'
        · simp [h'] at h0 h1; rw [h0] at h1; cases h1
        · simp [Array.getElem?_eq_none h'] at h1
      have h2 := opIn_put hro hoj (hfree j oj hoj hji hjun hnot) (fun cs b => hsel i oi cs b hi) (fun cs b => hsel j oj cs b hoj) hQ hy h1
      have hfree' : ∀ k ok, ops[k]? = some ok → k ≠ i → (listed.setIfInBounds j true).getD k true = false → (∀ e ∈ ok.after, Region.binds md e = true → e.on ≠ i) → oi.apart ops ok = true := fun k ok hk hki hun hno => by
        refine hfree k ok hk hki ?_ hno
        by_cases hjk : j = k
        · subst hjk; exact hjun
        · rw [getD_set_ne true hjk] at hun; exact hun
      refine wpOpIn_mono (fun a' w' h3 => ⟨h3.2.1, ih (listed.setIfInBounds j true) a' w' hfree' (ready_mono hr (Ne.symm hji)) h3.1 h3.2.1 ?_⟩) h2
      rw [Array.setIfInBounds_comm _ _ hji]
      exact h3.2.2
theorem anyS_take {i : Nat} {oi : Oper} {v : Value} {fuel : Nat} {listed : Array Bool} {a : Act} {w : World} (hro : plainOps ops = true) (hi : ops[i]? = some oi)
    (hs : Region.noSelect ops = true) (hf : Region.free md ops listed i = true) (hr : (Region.ready md ops listed).contains i = true) (hQ : ∀ c a w, Q (.panic c) (a.put oi.dst v) w → Q (.panic c) a w)
    (hab : ∀ w, oi.about P w a.eval = none) (hw : Region.wanted oi (yielded ops a.tmps) = true) (hS : S w) (hy : ∀ w, S w → (execOp a.eval oi).run P w = .ok (.value v) w)
    (h : anyS F n P md ops Q S fuel (listed.setIfInBounds i true) (a.put oi.dst v) w) : anyS F n P md ops Q S (fuel + 1) listed a w :=
  anyS_first hro hi (Region.noSelect_spec hs) hQ fuel listed a w (Region.free_spec hi hf) (by simpa using hr) ⟨.inl ⟨hw, hy⟩, hab⟩ hS h
theorem anyS_at {i d : Nat} {oi : Oper} {v : Value} {fuel : Nat} {listed : Array Bool} {a : Act} {w : World} (hro : plainOps ops = true) (hi : ops[i]? = some oi) (hd : oi.dst = some d)
    (hs : Region.noSelect ops = true) (hf : Region.free md ops listed i = true) (hr : (Region.ready md ops listed).contains i = true) (hQ : ∀ c a w, Q (.panic c) (a.put (some d) v) w → Q (.panic c) a w)
    (hab : ∀ w, oi.about P w a.eval = none) (hw : Region.wanted oi (yielded ops a.tmps) = true) (hS : S w) (hy : ∀ w, S w → (execOp a.eval oi).run P w = .ok (.value v) w)
    (h : anyS F n P md ops Q S fuel (listed.setIfInBounds i true) { tmps := a.tmps.setIfInBounds d v, defers := a.defers } w) : anyS F n P md ops Q S (fuel + 1) listed a w :=
  anyS_take hro hi hs hf hr (fun c a w h => hQ c a w (by rw [hd] at h; exact h)) hab hw hS hy (by rw [hd]; exact h)
theorem anyS_one {i : Nat} {o : Oper} {fuel : Nat} {listed : Array Bool} {a : Act} {w : World} (hr : Region.ready md ops listed = [i]) (ho : ops[i]? = some o)
    (h : ∀ K' : Act → World → Prop, (∀ a w, S w → anyS F n P md ops Q S fuel (listed.setIfInBounds i true) a w → K' a w) → if Region.wanted o (yielded ops a.tmps) = true then Oper.wpIn F n P o a w K' Q else (∀ f, o.about P w a.eval = some f → F.fn f) ∧ K' (a.put o.dst undef) w) :
    anyS F n P md ops Q S (fuel + 1) listed a w := by
  refine ⟨fun h0 => (by rw [hr] at h0; cases h0), fun j hj => ?_⟩
  rw [hr] at hj
  obtain rfl : j = i := by simpa using hj
  exact wpOpIn_step ho (fun K' hK => h K' (fun a w hS hW => hK a w ⟨hS, hW⟩))
theorem anyS_done {listed : Array Bool} {a : Act} {w : World} (hr : Region.ready md ops listed = []) (h : Q .normal a w) : ∀ fuel, anyS F n P md ops Q S fuel listed a w
  | 0 => ⟨hr, h⟩
  | _ + 1 => ⟨fun _ => h, by rw [hr]; simp⟩
theorem region_S {id : Nat} {a : Act} {w : World} (S : World → Prop) (hm : P.follows .mixedOrders = true) (h : anyS F n P .any ops Q S ops.size (Array.replicate ops.size false) a w.drew) : (Code.region id ops true).wpIn F n P Q a w :=
  wpIn_region_any hm (any_of_S _ _ _ _ h)
end
end Go.Proofs.Ytobljkhidgbeoaa.OctR
/- The queue: others. -/
namespace Go.Proofs.Ytobljkhidgbeoaa.Oct
open Go.RowKit Go.Proofs.YtobljkhidgbeoaaW.PrintWords Go.Proofs.Ytobljkhidgbeoaa.M
set_option linter.unusedVariables false
set_option linter.unusedSimpArgs false
attribute [local go_sem] Oper.semAt_some
set_option maxHeartbeats 1000000 in
theorem othersf_calls (n b : Nat) (N : Int) (w : World) :
    CallsIn Fence.wide n Try.prog 73 #[.pointer (some ⟨b, 34, none⟩), .int .i64 N] w fun e w' => e = .returned (.func (.func 80) #[] #[.pointer (some ⟨w.heap.size, 0, none⟩), .pointer (some ⟨w.heap.size + 1, 0, none⟩)]) ∧ w' = (w.alloc (.cells #[.pointer (some ⟨b, 34, none⟩)] 113)).alloc (.cells #[.int .i64 N] 3) := by
  refine callsIn_of_wp Try.func73 rfl trivial ?_ rfl
  simp only [Try.ntmps73, List.size_toArray, List.length_cons, List.length_nil, Nat.reduceAdd, Nat.reduceSub, Array.replicate_succ, Array.replicate_zero, List.push_toArray, List.append_toArray, List.nil_append, List.cons_append]
  gi_wp2
  go_ret
  exact ⟨by simp, rfl⟩
/-- what the iterator reads -/
def OF (Qb Nb b : Nat) (A : Option Addr) (m c : Nat) (N : Int) (W : World) : Prop := W.cell? ⟨Qb, 0, none⟩ = some (.pointer (some ⟨b, 34, none⟩)) ∧ W.cell? ⟨Nb, 0, none⟩ = some (.int .i64 N) ∧ W.cell? ⟨b, 34, none⟩ = some (.slice A m c)
def OQ (Qb Nb b : Nat) (N : Int) (W : World) : Prop := W.cell? ⟨Qb, 0, none⟩ = some (.pointer (some ⟨b, 34, none⟩)) ∧ W.cell? ⟨Nb, 0, none⟩ = some (.int .i64 N)
theorem cell_bel {V W : World} {p : Addr} {v : Value} (h : V.cell? p = some v) (hb : Below V.heap.size V W) : W.cell? p = some v := (hb.cell (World.block_lt_of_cell? _ _ h)).trans h
theorem OF.below {Qb Nb b : Nat} {A : Option Addr} {m c : Nat} {N : Int} {V W : World} (h : OF Qb Nb b A m c N V) (hb : Below V.heap.size V W) : OF Qb Nb b A m c N W := ⟨cell_bel h.1 hb, cell_bel h.2.1 hb, cell_bel h.2.2 hb⟩
theorem qFront_at {l : List QI} {N : Int} {k : Nat} (hk : k < l.length) (h0 : ∀ j, j < k → (l.getD j qi0).work = N) (h1 : (l.getD k qi0).work ≠ N) : qFront l N = some k := by
  unfold qFront
  rw [List.findIdx?_eq_some_iff_getElem]
  refine ⟨hk, ?_, fun j hj => ?_⟩
  · rw [List.getD_eq_getElem?_getD, List.getElem?_eq_getElem hk] at h1
    simpa using h1
  · have h2 := h0 j hj
    rw [List.getD_eq_getElem?_getD, List.getElem?_eq_getElem (by omega)] at h2
    simpa using h2
theorem qFront_no {l : List QI} {N : Int} (h0 : ∀ j, j < l.length → (l.getD j qi0).work = N) : qFront l N = none := by
  unfold qFront
  rw [List.findIdx?_eq_none_iff]
  intro x hx
  obtain ⟨j, hj, rfl⟩ := List.getElem_of_mem hx
  have h2 := h0 j hj
  rw [List.getD_eq_getElem?_getD, List.getElem?_eq_getElem hj] at h2
  simpa using h2
set_option maxRecDepth 100000 in
set_option maxHeartbeats 8000000 in
theorem others1_in (n : Nat) (hn : 1 ≤ n) (l Qb Nb b : Nat) (A : Option Addr) (c : Nat) (items : List QI) (N : Int) (V : World) (X : World → Prop) (hF : OF Qb Nb b A items.length c N V)
    (hI : ∀ k, k < items.length → ∃ ad, A = some ad ∧ V.cell? ⟨(ad.add (k * 3)).block, (ad.add (k * 3)).off + 2, none⟩ = some (.int .i64 (items.getD k qi0).work)) (hl : items.length ≤ 1000)
    (hX : ∀ W', X W' → OQ Qb Nb b N W')
    (hY : ∀ W2, Below V.heap.size V W2 → ∀ k ad, qFront items N = some k → A = some ad → YieldAt Fence.wide (n - 1) Try.prog l #[.pointer (some (ad.add (k * 3)))] W2 (fun e W' => e = .returned (.bool false) ∧ X W')) :
    CallsIn Fence.wide n Try.prog 80 #[.func (.yield l) #[] #[], .pointer (some ⟨Qb, 0, none⟩), .pointer (some ⟨Nb, 0, none⟩)] V (fun e W' => (∃ v, e = .returned v) ∧ ((qFront items N = none ∧ Below V.heap.size V W') ∨ X W')) := by
  have HF := Aside0.mk hF
  have HI := Aside0.mk hI
  have HX := Aside0.mk hX
  have HY := Aside0.mk hY
  obtain ⟨m, hm⟩ : ∃ m, m = items.length := ⟨_, rfl⟩
  have HM := Aside0.mk hm
  obtain ⟨f1, f2, f3⟩ := hF
  rw [← hm] at f3 hl
  clear hI hX hY hm
  refine callsIn_of_wp Try.func80 rfl trivial ?_ rfl
  simp only [Try.ntmps80, List.size_toArray, List.length_cons, List.length_nil, Nat.reduceAdd, Nat.reduceSub, Array.replicate_succ, Array.replicate_zero, List.push_toArray, List.append_toArray, List.nil_append, List.cons_append]
  gi_wp2
  clear f1 f2 f3
  gi_loopw [10] (fun v10 wr => ∃ k : Nat, k ≤ m ∧ v10 = .int .i64 k ∧ Aside0 (Below V.heap.size V wr) ∧ Aside0 (∀ j, j < k → (items.getD j qi0).work = N)) (fun v _ => m - (intOf v).toNat)
  case atStart => exact ⟨0, by omega, rfl, ⟨Below.refl _ _⟩, ⟨fun j hj => by omega⟩⟩
  case round =>
    obtain ⟨k, hk, rfl, HB, HP⟩ := hrel
    have h3 : OF Qb Nb b A m c N wr := by have := HF.out.below HB.out; rw [← HM.out] at this; exact this
    by_cases hlt : k < m
    · have hlt' : (k : Int) < (m : Int) := by omega
      obtain ⟨ad, ha, hwk⟩ := HI.out k (by rw [← HM.out]; exact hlt)
      have hwk2 := cell_bel hwk HB.out
      have HA := Aside0.mk ha
      rw [ha] at h3
      obtain ⟨c1, c2, c3⟩ := h3
      clear hwk ha
      cases hd : ((items.getD k qi0).work != N) with
      | false =>
        have heq : (items.getD k qi0).work = N := by simpa using hd
        obtain ⟨x, hx⟩ : ∃ x, x = (items.getD k qi0).work := ⟨_, rfl⟩
        rw [← hx] at hwk2 hd
        have HEQ := Aside0.mk heq
        clear hx heq
        gi_wp2
        refine wpIn_wide.2 ?_
        go_quiet (fail)
        obtain ⟨w2, hw2⟩ : ∃ w2, w2 = wr.drewN nq := ⟨_, rfl⟩
        have HB2 : Aside0 (Below V.heap.size V w2) := ⟨by rw [hw2]; exact HB.out.trans ((below_drawN _ _).mono HB.out.size)⟩
        rw [← hw2]
        clear hw2 c1 c2 c3 hwk2
        gi_wp2
        go_roundw
        case rel => exact ⟨k + 1, by omega, by go_num, HB2, ⟨fun j hj => by
          rcases Nat.lt_or_ge j k with h | h
          · exact HP.out j h
          · obtain rfl : j = k := by omega
            exact HEQ.out⟩⟩
        case measure => simp [intOf]; omega
      | true =>
        have hne : (items.getD k qi0).work ≠ N := by simpa using hd
        have hqf := qFront_at (by rw [← HM.out]; exact hlt) HP.out hne
        obtain ⟨fn, tmps, assign, body, hy, hR⟩ := HY.out wr.drew (below_drew HB.out) k ad hqf HA.out
        obtain ⟨x, hx⟩ : ∃ x, x = (items.getD k qi0).work := ⟨_, rfl⟩
        rw [← hx] at hwk2 hd
        clear hx hne hqf
        gi_wp2
        have hS2 : OQ Qb Nb b N wr.drew := ⟨c1, c2⟩
        have hw3 : wr.drew.cell? ⟨b, 34, none⟩ = some (.slice (some ad) m c) := c3
        have hw7 : wr.drew.cell? ⟨(ad.add (k * 3)).block, (ad.add (k * 3)).off + 2, none⟩ = some (.int .i64 x) := hwk2
        clear c1 c2 c3 hwk2
        refine OctR.region_S (OQ Qb Nb b N) (by kernel_rfl) ?_
        refine OctR.anyS_at (i := 0) (d := 13) (v := .pointer (some ⟨b, 34, none⟩)) (by kernel_rfl) rfl rfl (by kernel_rfl) (by kernel_rfl) (by kernel_rfl) (fun _ _ _ h => h) (fun _ => rfl) rfl hS2 (by intro W' hW'; obtain ⟨q1, q2⟩ := hW'; go_simp) ?_
        dsimp only
        simp only [List.setIfInBounds_toArray, List.set_cons_zero, List.set_cons_succ]
        refine OctR.anyS_at (i := 1) (d := 14) (v := .pointer (some ⟨b, 34, none⟩)) (by kernel_rfl) rfl rfl (by kernel_rfl) (by kernel_rfl) (by kernel_rfl) (fun _ _ _ h => h) (fun _ => rfl) rfl hS2 (by intro W' hW'; obtain ⟨q1, q2⟩ := hW'; go_simp) ?_
        dsimp only
        simp only [List.setIfInBounds_toArray, List.set_cons_zero, List.set_cons_succ]
        refine OctR.anyS_at (i := 2) (d := 15) (v := .pointer (some ⟨b, 34, none⟩)) (by kernel_rfl) rfl rfl (by kernel_rfl) (by kernel_rfl) (by kernel_rfl) (fun _ _ _ h => h) (fun _ => rfl) rfl hS2 (by intro W' hW'; obtain ⟨q1, q2⟩ := hW'; go_simp) ?_
        dsimp only
        simp only [List.setIfInBounds_toArray, List.set_cons_zero, List.set_cons_succ]
        refine OctR.anyS_at (i := 4) (d := 17) (v := .int .i64 (k : Int)) (by kernel_rfl) rfl rfl (by kernel_rfl) (by kernel_rfl) (by kernel_rfl) (fun _ _ _ h => h) (fun _ => rfl) rfl hS2 (by intro W' hW'; obtain ⟨q1, q2⟩ := hW'; go_simp) ?_
        dsimp only
        simp only [List.setIfInBounds_toArray, List.set_cons_zero, List.set_cons_succ]
        refine OctR.anyS_at (i := 8) (d := 21) (v := .int .i64 N) (by kernel_rfl) rfl rfl (by kernel_rfl) (by kernel_rfl) (by kernel_rfl) (fun _ _ _ h => h) (fun _ => rfl) rfl hS2 (by intro W' hW'; obtain ⟨q1, q2⟩ := hW'; go_simp) ?_
        dsimp only
        simp only [List.setIfInBounds_toArray, List.set_cons_zero, List.set_cons_succ]
        refine OctR.anyS_one (i := 3) (by kernel_rfl) rfl (fun K' hK => ?_)
        have HKA := Aside0.mk hK
        clear hK
        go_simp
        gi_wp2
        refine HKA.out _ _ hS2 ?_
        clear HKA K'
        refine OctR.anyS_at (i := 5) (d := 18) (v := .pointer (some (ad.add (k * 3)))) (by kernel_rfl) rfl rfl (by kernel_rfl) (by kernel_rfl) (by kernel_rfl) (fun _ _ _ h => h) (fun _ => rfl) rfl hS2 (by intro W' hW'; obtain ⟨q1, q2⟩ := hW'; go_simp) ?_
        dsimp only
        simp only [List.setIfInBounds_toArray, List.set_cons_zero, List.set_cons_succ]
        refine OctR.anyS_at (i := 6) (d := 19) (v := .pointer (some ⟨(ad.add (k * 3)).block, (ad.add (k * 3)).off + 2, none⟩)) (by kernel_rfl) rfl rfl (by kernel_rfl) (by kernel_rfl) (by kernel_rfl) (fun _ _ _ h => h) (fun _ => rfl) rfl hS2 (by intro W' hW'; obtain ⟨q1, q2⟩ := hW'; go_simp) ?_
        dsimp only
        simp only [List.setIfInBounds_toArray, List.set_cons_zero, List.set_cons_succ]
        refine OctR.anyS_one (i := 7) (by kernel_rfl) rfl (fun K' hK => ?_)
        have HKA := Aside0.mk hK
        clear hK
        go_simp
        gi_wp2
        refine HKA.out _ _ hS2 ?_
        clear HKA K'
        refine OctR.anyS_at (i := 9) (d := 22) (v := .bool true) (by kernel_rfl) rfl rfl (by kernel_rfl) (by kernel_rfl) (by kernel_rfl) (fun _ _ _ h => h) (fun _ => rfl) rfl hS2 (by intro W' hW'; obtain ⟨q1, q2⟩ := hW'; go_simp) ?_
        dsimp only
        simp only [List.setIfInBounds_toArray, List.set_cons_zero, List.set_cons_succ]
        refine OctR.anyS_at (i := 10) (d := 23) (v := .bool true) (by kernel_rfl) rfl rfl (by kernel_rfl) (by kernel_rfl) (by kernel_rfl) (fun _ _ _ h => h) (fun _ => rfl) rfl hS2 (by intro W' hW'; obtain ⟨q1, q2⟩ := hW'; go_simp) ?_
        dsimp only
        simp only [List.setIfInBounds_toArray, List.set_cons_zero, List.set_cons_succ]
        refine OctR.anyS_at (i := 11) (d := 24) (v := .func (.yield l) #[] #[]) (by kernel_rfl) rfl rfl (by kernel_rfl) (by kernel_rfl) (by kernel_rfl) (fun _ _ _ h => h) (fun _ => rfl) rfl hS2 (by intro W' hW'; obtain ⟨q1, q2⟩ := hW'; go_simp) ?_
        dsimp only
        simp only [List.setIfInBounds_toArray, List.set_cons_zero, List.set_cons_succ]
        refine OctR.anyS_at (i := 12) (d := 25) (v := .pointer (some ⟨b, 34, none⟩)) (by kernel_rfl) rfl rfl (by kernel_rfl) (by kernel_rfl) (by kernel_rfl) (fun _ _ _ h => h) (fun _ => rfl) rfl hS2 (by intro W' hW'; obtain ⟨q1, q2⟩ := hW'; go_simp) ?_
        dsimp only
        simp only [List.setIfInBounds_toArray, List.set_cons_zero, List.set_cons_succ]
        refine OctR.anyS_at (i := 13) (d := 26) (v := .pointer (some ⟨b, 34, none⟩)) (by kernel_rfl) rfl rfl (by kernel_rfl) (by kernel_rfl) (by kernel_rfl) (fun _ _ _ h => h) (fun _ => rfl) rfl hS2 (by intro W' hW'; obtain ⟨q1, q2⟩ := hW'; go_simp) ?_
        dsimp only
        simp only [List.setIfInBounds_toArray, List.set_cons_zero, List.set_cons_succ]
        refine OctR.anyS_at (i := 14) (d := 27) (v := .pointer (some ⟨b, 34, none⟩)) (by kernel_rfl) rfl rfl (by kernel_rfl) (by kernel_rfl) (by kernel_rfl) (fun _ _ _ h => h) (fun _ => rfl) rfl hS2 (by intro W' hW'; obtain ⟨q1, q2⟩ := hW'; go_simp) ?_
        dsimp only
        simp only [List.setIfInBounds_toArray, List.set_cons_zero, List.set_cons_succ]
        refine OctR.anyS_at (i := 16) (d := 29) (v := .int .i64 (k : Int)) (by kernel_rfl) rfl rfl (by kernel_rfl) (by kernel_rfl) (by kernel_rfl) (fun _ _ _ h => h) (fun _ => rfl) rfl hS2 (by intro W' hW'; obtain ⟨q1, q2⟩ := hW'; go_simp) ?_
        dsimp only
        simp only [List.setIfInBounds_toArray, List.set_cons_zero, List.set_cons_succ]
        refine OctR.anyS_one (i := 15) (by kernel_rfl) rfl (fun K' hK => ?_)
        have HKA := Aside0.mk hK
        clear hK
        go_simp
        gi_wp2
        refine HKA.out _ _ hS2 ?_
        clear HKA K'
        refine OctR.anyS_at (i := 17) (d := 30) (v := .pointer (some (ad.add (k * 3)))) (by kernel_rfl) rfl rfl (by kernel_rfl) (by kernel_rfl) (by kernel_rfl) (fun _ _ _ h => h) (fun _ => rfl) rfl hS2 (by intro W' hW'; obtain ⟨q1, q2⟩ := hW'; go_simp) ?_
        dsimp only
        simp only [List.setIfInBounds_toArray, List.set_cons_zero, List.set_cons_succ]
        refine OctR.anyS_one (i := 18) (by kernel_rfl) rfl (fun K' hK => ?_)
        have HKA := Aside0.mk hK
        clear hK
        go_simp
        gi_wp2_with fail
        refine hR.mono ?_
        rintro e W3 ⟨rfl, hx⟩
        have hS3 := HX.out _ hx
        have HX3 := Aside0.mk hx
        clear hx hy hR
        dsimp only
        refine HKA.out _ _ hS3 ?_
        clear HKA K'
        refine OctR.anyS_at (i := 19) (d := 32) (v := .bool true) (by kernel_rfl) rfl rfl (by kernel_rfl) (by kernel_rfl) (by kernel_rfl) (fun _ _ _ h => h) (fun _ => rfl) rfl hS3 (by intro W' hW'; obtain ⟨q1, q2⟩ := hW'; go_simp) ?_
        dsimp only
        simp only [List.setIfInBounds_toArray, List.set_cons_zero, List.set_cons_succ]
        refine OctR.anyS_at (i := 20) (d := 33) (v := .bool true) (by kernel_rfl) rfl rfl (by kernel_rfl) (by kernel_rfl) (by kernel_rfl) (fun _ _ _ h => h) (fun _ => rfl) rfl hS3 (by intro W' hW'; obtain ⟨q1, q2⟩ := hW'; go_simp) ?_
        dsimp only
        simp only [List.setIfInBounds_toArray, List.set_cons_zero, List.set_cons_succ]
        refine OctR.anyS_done (by kernel_rfl) ?_ _
        gi_wp2
        refine bodyPost_ret (results_none rfl _ _ _) rfl ?_
        exact ⟨⟨_, rfl⟩, .inr HX3.out⟩
    · obtain rfl : k = m := by omega
      clear h3
      gi_wp2
      go_end0
      exact ⟨⟨_, rfl⟩, .inl ⟨qFront_no (fun j hj => HP.out j (by rw [HM.out]; exact hj)), HB.out⟩⟩
end Go.Proofs.Ytobljkhidgbeoaa.Oct
