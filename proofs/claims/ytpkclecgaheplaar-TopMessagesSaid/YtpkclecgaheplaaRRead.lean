import Derived.ProofKit
import Derived.SizedLaws
import Derived.Test.YtpkclecgaheplaaRMem
/- HOW AN ARGUMENT'S DATA ARE READ, kind by kind: numbers, bools, slices, structs. No function of the program is named. -/
namespace Go.Proofs.YtpkclecgaheplaaR.Rd
open Go.RowKit Go.Proofs.YtpkclecgaheplaaRW.PrintWords Go.Proofs.YtpkclecgaheplaaR.M
set_option linter.unusedVariables false
section
variable {H : Type} (enc : TypeId × Value → H) (P : Program) (w : World) (base : Nat) (spare : Nat → Bool) (held : Bool)
/-- a value of type T, read as data, is one of kind d; what is good of it -/
structure Rd {α : Type} (T : TypeId) (d : Kd α) (G : α → Prop) : Prop where
  sz : P.cellsOf T = d.sz
  read : ∀ fuel cs x, DataW.trod enc P w base spare held fuel T cs = some x → (∀ n ∈ DataW.weights P T x.1, n ≤ reachBytes) → ∃ a, d.K w a cs ∧ G a
def offs (P : Program) (ts : List TypeId) (i : Nat) : Nat := ((ts.take i).map P.cellsOf).sum
structure RdL {α : Type} (ts : List TypeId) (d : Kd α) (G : α → Prop) : Prop where
  sz : (ts.map P.cellsOf).sum = d.sz
  read : ∀ fuel cs (xs : List (DataW H × List MemPlace)), cs.length = d.sz → xs.length = ts.length →
    (∀ (i : Nat) (t : TypeId), ts[i]? = some t → DataW.trod enc P w base spare held fuel t ((cs.drop (offs P ts i)).take (P.cellsOf t)) = xs[i]?) →
    (∀ n ∈ DataW.weightsEach P ts (xs.map (·.1)), n ≤ reachBytes) → ∃ a, d.K w a cs ∧ G a
variable {enc P w base spare held}
theorem Rd.int {T : TypeId} {k : IntKind} (hu : P.underlying T = some (.int k)) (hc : P.cellsOf T = 1) : Rd enc P w base spare held T (Kd.int k) (fun n => (Lit.int k n).wf = true) := by
  refine ⟨hc, fun fuel cs x h _ => ?_⟩
  obtain ⟨n, rfl, rfl, hw⟩ := DataW.trod_int hu h
  exact ⟨n, rfl, hw⟩
theorem RdL.one {α : Type} {T : TypeId} {d : Kd α} {G : α → Prop} (h : Rd enc P w base spare held T d G) : RdL enc P w base spare held [T] d G := by
  refine ⟨by simpa using h.sz, fun fuel cs xs hl hx hf hw => ?_⟩
  match xs, hx with
  | [x0], _ =>
    have := hf 0 T rfl
    simp only [offs, List.take_zero, List.map_nil, List.sum_nil, List.drop_zero, List.getElem?_cons_zero] at this
    rw [List.take_of_length_le (by rw [hl, h.sz]; exact Nat.le_refl _)] at this
    exact h.read fuel cs x0 this (fun n hn => hw n (by simpa [DataW.weightsEach] using hn))
theorem RdL.cons {α β : Type} {T : TypeId} {ts : List TypeId} {d0 : Kd α} {d1 : Kd β} {G0 : α → Prop} {G1 : β → Prop} (h0 : Rd enc P w base spare held T d0 G0) (h1 : RdL enc P w base spare held ts d1 G1) :
    RdL enc P w base spare held (T :: ts) (Kd.pair d0 d1) (fun a => G0 a.1 ∧ G1 a.2) := by
  refine ⟨?_, fun fuel cs xs hl hx hf hw => ?_⟩
  · show (P.cellsOf T :: ts.map P.cellsOf).sum = d0.sz + d1.sz
    rw [List.sum_cons, h0.sz, h1.sz]
  · match xs, hx with
    | x0 :: xr, hx =>
      have hl' : cs.length = d0.sz + d1.sz := hl
      have f0 := hf 0 T rfl
      simp only [offs, List.take_zero, List.map_nil, List.sum_nil, List.drop_zero, List.getElem?_cons_zero] at f0
      obtain ⟨a, ka, ga⟩ := h0.read fuel _ x0 f0 (fun n hn => hw n (by simp only [List.map_cons, DataW.weightsEach]; exact List.mem_append_left _ hn))
      obtain ⟨b, kb, gb⟩ := h1.read fuel (cs.drop d0.sz) xr (by rw [List.length_drop]; omega) (by simpa using hx) (fun i t hi => by
        have := hf (i + 1) t (by simpa using hi)
        simp only [offs, List.take_succ_cons, List.map_cons, List.sum_cons, List.getElem?_cons_succ] at this
        rw [List.drop_drop, ← h0.sz]
        exact this) (fun n hn => hw n (by simp only [List.map_cons, DataW.weightsEach]; exact List.mem_append_right _ hn))
      refine ⟨(a, b), ⟨cs.take d0.sz, cs.drop d0.sz, (List.take_append_drop _ _).symm, ?_, kb⟩, ga, gb⟩
      rw [h0.sz] at ka
      exact ka
theorem Rd.struct {α : Type} {T : TypeId} {ts : List TypeId} {d : Kd α} {G : α → Prop} {fs : Array Field} (hu : P.underlying T = some (.struct fs)) (ht : fs.toList.map (·.type) = ts) (ho : fs.toList.map (·.offset) = (List.range ts.length).map (offs P ts)) (hc : P.cellsOf T = d.sz)
    (h : RdL enc P w base spare held ts d G) : Rd enc P w base spare held T d G := by
  refine ⟨hc, fun fuel cs x hx hw => ?_⟩
  obtain ⟨xs, n, _, rfl, hl, hlen, hf⟩ := DataW.trod_struct hu hx
  have hn : ts.length = fs.size := by rw [← ht]; simp
  refine h.read n cs xs (by rw [hl, hc]) (by rw [hlen, hn]) (fun i t hi => ?_) (fun m hm => hw m ?_)
  · have hi' : i < fs.size := by rw [← hn]; exact (List.getElem?_eq_some_iff.1 hi).1
    have hfi : fs[i]? = some fs[i] := Array.getElem?_eq_getElem hi'
    have e1 : fs[i].type = t := by
      rw [← ht] at hi
      simpa [List.getElem?_map, hi'] using hi
    have e2 : fs[i].offset = offs P ts i := by
      have := congrArg (fun l => l[i]?) ho
      simpa [List.getElem?_map, hi', hn] using this
    have := hf i fs[i] hfi
    rw [e1, e2] at this
    exact this
  · have : DataW.weights P T (.agg (xs.map (·.1))) = DataW.weightsEach P ts (xs.map (·.1)) := by
      simp only [DataW.weights, hu, ht]
    rw [this]
    exact hm
theorem mem_weightsAll {e : TypeId} {n : Nat} : ∀ {l : List (DataW H)} {y : DataW H}, y ∈ l → n ∈ DataW.weights P e y → n ∈ DataW.weightsAll P e l
  | d :: r, y, hy, hn => by
    simp only [DataW.weightsAll]
    rcases List.mem_cons.1 hy with rfl | hy
    · exact List.mem_append_left _ hn
    · exact List.mem_append_right _ (mem_weightsAll hy hn)
theorem addr_add_add (a : Addr) (i j : Nat) : (a.add i).add j = a.add (i + j) := by
  unfold Addr.add
  by_cases hi : i = 0
  · subst hi; simp
  · by_cases hj : j = 0
    · subst hj; simp
    · simp [hi, hj, Nat.add_assoc]
theorem Rd.slice {α : Type} {T e : TypeId} {E : Nat} {d : Kd α} {G : α → Prop} (hu : P.underlying T = some (.slice e)) (hc : P.cellsOf T = 1) (h : Rd enc P w base spare held e d G) :
    Rd enc P w base spare held T (Kd.slice E d) (fun xs => (∀ x ∈ xs, G x) ∧ xs.length * P.bytesOf e ≤ reachBytes) := by
  refine ⟨hc, fun fuel cs x hx hw => ?_⟩
  rcases DataW.trod_slice hu hx with ⟨rfl, rfl⟩ | ⟨a, len, cap, elems, rest, n, _, rfl, rfl, hb, hl, hm, hlen, hel, _, _⟩
  · exact ⟨[], ⟨none, 0, rfl, Nat.le_refl _, Kd.C_nil _ _⟩, (fun _ hx => nomatch hx), by simp⟩
  · have key : ∀ i : Nat, i < len → ∃ c p, w.cells? base (a.add (i * P.cellsOf e)) (P.cellsOf e) = some c ∧ d.K w p c ∧ G p := by
      intro i hi
      have := hel i hi
      rw [List.getElem?_eq_getElem (by omega)] at this
      obtain ⟨c, hcs, ht⟩ := Option.bind_eq_some_iff.1 this
      obtain ⟨p, kp, gp⟩ := h.read n c _ ht (fun m hm => hw m (by
        simp only [DataW.weights, hu]
        exact List.mem_cons_of_mem _ (List.mem_append_left _ (mem_weightsAll (List.mem_map.2 ⟨elems[i], List.getElem_mem _, rfl⟩) hm))))
      exact ⟨c, p, hcs, kp, gp⟩
    have build : ∀ m : Nat, m ≤ len → ∃ xs : List α, xs.length = m ∧ ∀ (i : Nat) (p : α), xs[i]? = some p → ∃ c, w.cells? base (a.add (i * P.cellsOf e)) (P.cellsOf e) = some c ∧ d.K w p c ∧ G p := by
      intro m
      induction m with
      | zero => intro _; exact ⟨[], rfl, fun i p hp => by simp at hp⟩
      | succ m ih =>
        intro hm
        obtain ⟨xs, hxl, hxs⟩ := ih (by omega)
        obtain ⟨c, p, hcs, kp, gp⟩ := key m (by omega)
        refine ⟨xs ++ [p], by simp [hxl], fun i q hq => ?_⟩
        rcases Nat.lt_or_ge i xs.length with hi | hi
        · rw [List.getElem?_append_left hi] at hq
          exact hxs i q hq
        · have hi' : i = xs.length := by
            have := (List.getElem?_eq_some_iff.1 hq).1
            rw [List.length_append, List.length_singleton] at this
            omega
          subst hi'
          have : p = q := by simpa using hq
          subst this
          rw [hxl]
          exact ⟨c, hcs, kp, gp⟩
    obtain ⟨xs, hxl, hxs⟩ := build len (Nat.le_refl _)
    refine ⟨xs, ⟨some a, cap, by rw [hxl], by omega, ?_⟩, ⟨fun x hx => ?_, ?_⟩⟩
    · refine ⟨rfl, by rw [hxl]; simp only [maxLen] at hm; omega, fun _ => ⟨a, rfl, fun i p hp => ?_⟩⟩
      obtain ⟨c, hcs, kp, _⟩ := hxs i p hp
      obtain ⟨_, hcl, hcell⟩ := World.cells?_some hcs
      refine ⟨c, by rw [hcl, h.sz], kp, fun k u hu => ?_⟩
      have hk : k < P.cellsOf e := by rw [← hcl]; exact (List.getElem?_eq_some_iff.1 hu).1
      have := hcell k hk
      rw [hu, addr_add_add, h.sz] at this
      exact this
    · obtain ⟨i, hi, rfl⟩ := List.getElem_of_mem hx
      obtain ⟨_, _, _, gp⟩ := hxs i _ (List.getElem?_eq_getElem hi)
      exact gp
    · have : (elems.map (·.1)).length * P.bytesOf e ≤ reachBytes := by
        refine Nat.le_trans (Nat.mul_le_mul_right _ (Nat.le_add_right _ _)) (hw ((elems.map (·.1)).length * P.bytesOf e + (rest.map (·.1)).length * P.bytesOf e |> fun _ => ((elems.map (·.1)).length + (rest.map (·.1)).length) * P.bytesOf e) ?_)
        simp only [DataW.weights, hu]
        exact List.mem_cons_self
      rw [hxl, ← hlen]
      simpa using this
theorem weights_at {ts : List TypeId} {ds : List (DataW H)} {j : Nat} {t : TypeId} {d : DataW H} (hsz : (DataW.weightsEach P ts ds).all (· ≤ reachBytes) = true) (ht : ts[j]? = some t) (hd : ds[j]? = some d) : ∀ n ∈ DataW.weights P t d, n ≤ reachBytes := fun n hn => by
  have := List.all_eq_true.1 hsz _ (DataW.weights_mem_each ht hd n hn)
  simpa using this
/-- a slice that came in, as data -/
theorem slice_arg {α : Type} {T : TypeId} {E : Nat} {d : Kd α} {G : List α → Prop} (hr : Rd enc P w base spare held T (Kd.slice E d) G) {a : Option Addr} {len cap : Nat} {dd : DataW H} {ps : List MemPlace} (hw : ∀ n ∈ DataW.weights P T dd, n ≤ reachBytes)
    (h : DataW.Trod enc P w base spare held T (.slice a len cap) dd ps) : ∃ xs : List α, len = xs.length ∧ xs.length ≤ cap ∧ d.C w a xs.length xs ∧ G xs := by
  obtain ⟨fuel, hf⟩ := h
  obtain ⟨xs, ⟨A, c, hcs, hl, hC⟩, hG⟩ := hr.read fuel _ _ hf hw
  simp [Value.cells] at hcs
  obtain ⟨rfl, h1, h2⟩ := hcs
  subst h2
  exact ⟨xs, h1, hl, hC, hG⟩
theorem slice_none {T e : TypeId} (hu : P.underlying T = some (.slice e)) {len cap : Nat} {dd : DataW H} {ps : List MemPlace} (h : DataW.Trod enc P w base spare held T (.slice none len cap) dd ps) : cap = 0 := by
  obtain ⟨fuel, hf⟩ := h
  rcases DataW.trod_slice hu hf with ⟨h1, _⟩ | ⟨a, len', cap', elems, rest, n, _, h1, _⟩
  · simp [Value.cells] at h1
    exact h1.2
  · simp [Value.cells] at h1
theorem i64b {n : Int} (h : (Lit.int .i64 n).wf = true) : -9223372036854775808 ≤ n ∧ n ≤ 9223372036854775807 := by
  have := Go.bounds_i64 h
  omega
theorem bytes_good {xs : List Int} (h : ∀ x ∈ xs, (Lit.int .u8 x).wf = true) : Bytes xs := fun x hx => Oct.byte_wf (h x hx)
end
end Go.Proofs.YtpkclecgaheplaaR.Rd
