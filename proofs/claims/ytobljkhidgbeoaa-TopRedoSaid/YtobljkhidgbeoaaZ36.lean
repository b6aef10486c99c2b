import Derived.Stop.RegionWithIn
import Derived.OrdersHeld
import Derived.OrdersIn
import Derived.Test.YtobljkhidgbeoaaZ22
import Derived.Test.YtobljkhidgbeoaaZ35
/- wal.walk: the function that tells the records. -/
namespace Go.Proofs.Ytobljkhidgbeoaa.M
theorem getD_drop (b : List Int) (i k : Nat) : (b.drop i).getD k 0 = b.getD (i + k) 0 := by simp [List.getD_eq_getElem?_getD, List.getElem?_drop]
theorem take_of_drop (b : List Int) (i m : Nat) : (b.drop i).take m = (b.take (i + m)).drop i := by rw [List.drop_take]; congr 1; omega
theorem isR_short {b : List Int} {i : Nat} (h : b.length < i + 7) : ¬ isR (b.drop i) := fun h2 => by have := h2.1; rw [List.length_drop] at this; omega
theorem isR_at {b : List Int} {i : Nat} (h7 : i + 7 ≤ b.length) {N : Nat} (hN : (N : Int) = 256 * b.getD i 0 + b.getD (i + 1) 0) :
    lenR (b.drop i) = N ∧ (isR (b.drop i) ↔ b.getD (i + 2) 0 ≠ 0 ∧ N ≤ 1024 ∧ i + 3 + N + 4 ≤ b.length ∧ getF ((b.take (i + 3 + N + 4)).drop (i + 3 + N)) = sumOf ((b.take (i + 3 + N)).drop i)) ∧ recR (b.drop i) = (b.getD (i + 2) 0, (b.take (i + 3 + N)).drop (i + 3)) := by
  have hl : lenR (b.drop i) = N := by
    unfold lenR
    rw [getD_drop, getD_drop, Nat.add_zero]
    omega
  refine ⟨hl, ?_, ?_⟩
  · unfold isR
    rw [hl, getD_drop, List.drop_drop, take_of_drop, take_of_drop, List.length_drop, show i + (3 + N) = i + 3 + N by omega]
    constructor
    · rintro ⟨h1, h2, h3, h4, h5⟩; exact ⟨h2, h3, by omega, h5⟩
    · rintro ⟨h2, h3, h4, h5⟩; exact ⟨by omega, h2, h3, by omega, h5⟩
  · unfold recR
    rw [hl, getD_drop, List.drop_drop, take_of_drop]
end Go.Proofs.Ytobljkhidgbeoaa.M
namespace Go.Proofs.Ytobljkhidgbeoaa.Oct
open Go.RowKit Go.Proofs.YtobljkhidgbeoaaW.PrintWords Go.Proofs.Ytobljkhidgbeoaa.M
set_option linter.unusedVariables false
set_option linter.unusedSimpArgs false
attribute [local go_sem] Oper.semAt_some
/-- what a round is told: where the record ends, its kind, the slice, its bytes -/
abbrev XR := Nat × Int × Value × List Int
abbrev encR (x : XR) : Array Value := #[.int .i64 (x.1 : Int), .agg #[.int .i64 x.2.1, x.2.2.1]]
def Rx (base : Nat) (x : XR) (W : World) : Prop := OB W base x.2.2.1 x.2.2.2
abbrev tell (x : XR) : Nat × Rc := (x.1, x.2.1, x.2.2.2)
def Tx (b : List Int) (pre : List XR) (x : XR) : Prop := (pre ++ [x]).map tell <+: readL 0 b
/-- what lay below a mark, and one block, stand as they stood -/
def Kw (n0 Bs : Nat) (A B : World) : Prop := A.heap.size ≤ B.heap.size ∧ ∀ k, (k < n0 ∨ k = Bs) → k < A.heap.size → B.heap[k]? = A.heap[k]?
theorem Kw.trans {n0 Bs : Nat} {A B C : World} (h : Kw n0 Bs A B) (h2 : Kw n0 Bs B C) : Kw n0 Bs A C := ⟨Nat.le_trans h.1 h2.1, fun k hk hl => (h2.2 k hk (Nat.lt_of_lt_of_le hl h.1)).trans (h.2 k hk hl)⟩
theorem Kw.refl (n0 Bs : Nat) (A : World) : Kw n0 Bs A A := ⟨Nat.le_refl _, fun _ _ _ => rfl⟩
theorem Kw.below {n0 Bs : Nat} {A B : World} (h : Below A.heap.size A B) : Kw n0 Bs A B := ⟨h.size, fun k _ hl => h.block k hl⟩
theorem C_kw {n0 Bs : Nat} {A B : World} {a : Option Addr} {m : Nat} {xs : List Int} (h : Kd.C (Kd.int .u8) A a m xs) (ha : 0 < m → ∀ ad, a = some ad → ad.block < n0) (hk : Kw n0 Bs A B) : Kd.C (Kd.int .u8) B a m xs := by
  refine ⟨h.1, h.2.1, fun hn => ?_⟩
  obtain ⟨ad, e, hc⟩ := h.2.2 hn
  refine ⟨ad, e, fun j p hj => ?_⟩
  obtain ⟨c, hs, hr, hcell⟩ := hc j p hj
  refine ⟨c, hs, hr, fun i u hu => ?_⟩
  have hbk : ∀ j, (ad.add j).block = ad.block := fun j => by unfold Addr.add; split <;> rfl
  have hlt := World.block_lt_of_cell? A _ (hcell i u hu)
  rw [← hcell i u hu]
  rw [hbk] at hlt
  exact World.cell?_of_block (by rw [hbk]; exact hk.2 _ (.inl (ha hn ad e)) hlt)
theorem i64_orb {v x : Int} (h0 : 0 ≤ v) (h : v < 256) (hx0 : 0 ≤ x) (hx : x < 256) : Go.bits .or .i64 (v * 256) x = v * 256 + x :=
  bits_join .i64 63 (by decide) (fun n h0 h1 => by simp [IntKind.wrap, IntKind.bits, IntKind.signed]; omega) 8 _ _ (by omega) (by omega) (by omega) hx0 (by omega) (by omega)
/-- a piece of a text that is read, and its slice -/
theorem piece {W : World} {A : Option Addr} {c : Nat} {b : List Int} {ad : Addr} (hA : A = some ad) (h : Kd.C (Kd.int .u8) W A b.length b) (hc : b.length ≤ c) {lo hi m : Nat} (h1 : lo ≤ hi) (h2 : hi ≤ b.length) (hm : m = hi - lo) :
    ∃ ad5 c5, ((b.take hi).drop lo).length = m ∧ Kd.C (Kd.int .u8) W (some ad5) m ((b.take hi).drop lo) ∧ (if c = lo then A else A.map (·.add (lo * 1))) = some ad5 ∧ c - lo = c5 := by
  have hmid := Kd.C_mid (c := c) h h1 h2 hc
  have hsz : (Kd.int IntKind.u8).sz = 1 := rfl
  rw [hsz] at hmid
  have hl : ((b.take hi).drop lo).length = m := by rw [List.length_drop, List.length_take]; omega
  obtain ⟨ad5, hA5⟩ : ∃ ad5, (if c = lo then A else A.map (·.add (lo * 1))) = some ad5 := by rw [hA]; split <;> exact ⟨_, rfl⟩
  rw [hA5, hl] at hmid
  exact ⟨ad5, _, hl, hmid, hA5, rfl⟩
theorem told {e : Ending} {A B K : Prop} (h : (e = .returned (.bool true) ∧ A ∧ K) ∨ (e = .returned (.bool false) ∧ B ∧ K)) : ∃ bb : Bool, e = .returned (.bool bb) ∧ K ∧ ((bb = true ∧ A) ∨ (bb = false ∧ B)) := by
  rcases h with ⟨h, h2, h3⟩ | ⟨h, h2, h3⟩
  · exact ⟨true, h, h3, .inl ⟨rfl, h2⟩⟩
  · exact ⟨false, h, h3, .inr ⟨rfl, h2⟩⟩
theorem cell_kw {n0 Bs : Nat} {A B : World} {p : Addr} {v : Value} (h : A.cell? p = some v) (hk : Kw n0 Bs A B) (hb : p.block < n0 ∨ p.block = Bs) : B.cell? p = some v :=
  (World.cell?_of_block (hk.2 _ hb (World.block_lt_of_cell? A _ h))).trans h
end Go.Proofs.Ytobljkhidgbeoaa.Oct
/- A region that draws its order, inside a fence, with a condition on the world that stands behind each operation: what yields in every world that meets it is taken first. -/
namespace Go.Proofs.Ytobljkhidgbeoaa.Oct
section
variable {F : Fence} {n : Nat} {P : Program} {ops : Array Oper} {Q : Exit → Act → World → Prop} {md : Region.Mode} {S : World → Prop}
def YieldsS (P : Program) (ops : Array Oper) (S : World → Prop) (o : Oper) (v : Value) (a : Act) : Prop := YieldsIf P ops S o v a ∧ ∀ w, o.about P w a.eval = none
theorem YieldsS.op {i : Nat} {o : Oper} {v : Value} {a : Act} (hro : F.round = none) (hi : ops[i]? = some o) (hy : YieldsS P ops S o v a) {K : Act → World → Prop} {w : World} (hS : S w) (h : K (a.put o.dst v) w) : wpOpIn F n P ops Q i K a w := by
  unfold wpOpIn
  simp only [hi]
  have hab : ∀ f, o.about P w a.eval = some f → F.fn f := fun f hf => by rw [hy.2 w] at hf; cases hf
  rcases hy.1 with ⟨hw, hv⟩ | ⟨hw, rfl⟩
  · simp only [hw, if_true, Oper.wpIn, hro, Oper.semAt_none, hv w hS, Oper.uponIn]; exact ⟨hab, h⟩
  · simp only [hw, Bool.false_eq_true, if_false]; exact ⟨hab, h⟩
theorem YieldsS.same {o : Oper} {v : Value} {a a' : Act} (hy : YieldsS P ops S o v a) (he : execOp a'.eval o = execOp a.eval o) (hw : Region.wanted o (yielded ops a'.tmps) = Region.wanted o (yielded ops a.tmps)) (hb : ∀ w, o.about P w a'.eval = o.about P w a.eval) : YieldsS P ops S o v a' :=
  ⟨hy.1.of_same he hw, fun w => by rw [hb w]; exact hy.2 w⟩
theorem opIn_put {j : Nat} {oi oj : Oper} {v : Value} (hro : F.round = none) (hj : ops[j]? = some oj) (hap : oi.apart ops oj = true) (hsi : ∀ cs b, oi.op ≠ .select cs b) (hsj : ∀ cs b, oj.op ≠ .select cs b)
    (hQ : ∀ c a w, Q (.panic c) (a.put oi.dst v) w → Q (.panic c) a w) {K : Act → World → Prop} {a : Act} {w : World} (hy : YieldsS P ops S oi v a) (h : wpOpIn F n P ops Q j K (a.put oi.dst v) w) :
    wpOpIn F n P ops Q j (fun a' w' => YieldsS P ops S oi v a' ∧ K (a'.put oi.dst v) w') a w := by
  obtain ⟨h1, h2, h3⟩ := Oper.apart_spec hap
  have keep : ∀ (a : Act), YieldsS P ops S oi v a → ∀ u, YieldsS P ops S oi v (a.put oj.dst u) := fun a hy u =>
    hy.same (execOp_put oi hsi a oj.dst u h3) (wanted_put oi a oj.dst u h3) (fun w => about_put oi w a oj.dst u h3)
  have keepD : ∀ d, YieldsS P ops S oi v { a with defers := d :: a.defers } := fun d => hy.same rfl rfl (fun _ => rfl)
  unfold wpOpIn at *
  simp only [hj] at *
  rw [wanted_put oj a oi.dst v h1, about_put oj w a oi.dst v h1] at h
  split
  · rename_i hw
    simp only [hw, if_true] at h
    unfold Oper.wpIn at *
    rw [about_put oj w a oi.dst v h1] at h
    refine ⟨h.1, ?_⟩
    have h := h.2
    rw [hro, Oper.semAt_none, execOp_put oj hsj a oi.dst v h1] at h
    rw [hro, Oper.semAt_none]
    generalize (execOp a.eval oj).run P w = r at *
    cases r with
    | ok x w' =>
      cases x <;> simp only [Oper.uponIn] at h ⊢
      case value u => exact ⟨keep a hy u, by rw [← Act.put_comm a v u h2]; exact h⟩
      case skip => exact ⟨keep a hy _, by rw [← Act.put_comm a v undef h2]; exact h⟩
      case defer d =>
        refine ⟨keep _ (keepD d) _, ?_⟩
        rw [← Act.put_comm _ v undef h2, ← Act.put_defers]
        exact h
      case enter f args =>
        refine ⟨h.1, CallsIn.mono h.2 fun e w'' he => ?_⟩
        cases e with
        | returned u => exact ⟨keep a hy u, by rw [← Act.put_comm a v u h2]; exact he⟩
        | panicked c => exact hQ _ _ _ he
        | outgrown => exact he
      case row row args => exact ⟨h.1, RowsIn.mono h.2 fun u w'' he => ⟨keep a hy u, by rw [← Act.put_comm a v u h2]; exact he⟩⟩
      case round l f tmps assign body =>
        refine ⟨h.1, RoundIn.mono h.2 fun e w'' he => ?_⟩
        cases e with
        | returned u => exact ⟨keep a hy u, by rw [← Act.put_comm a v u h2]; exact he⟩
        | panicked c => exact hQ _ _ _ he
        | outgrown => exact he
    | halt x w' =>
      cases x <;> simp only [Oper.uponIn] at h ⊢
      case panic u => exact hQ _ _ _ h
  · rename_i hw
    simp only [hw] at h
    exact ⟨h.1, keep a hy _, by rw [← Act.put_comm a v undef h2]; exact h.2⟩
def anyS (F : Fence) (n : Nat) (P : Program) (md : Region.Mode) (ops : Array Oper) (Q : Exit → Act → World → Prop) (S : World → Prop) : Nat → Array Bool → Act → World → Prop
  | 0, listed, a, w => Region.ready md ops listed = [] ∧ Q .normal a w
  | fuel + 1, listed, a, w => (Region.ready md ops listed = [] → Q .normal a w) ∧ ∀ i ∈ Region.ready md ops listed, wpOpIn F n P ops Q i (fun a' w' => S w' ∧ anyS F n P md ops Q S fuel (listed.setIfInBounds i true) a' w') a w
theorem any_of_S : ∀ (fuel : Nat) (listed : Array Bool) (a : Act) (w : World), anyS F n P md ops Q S fuel listed a w → wpAnyIn F n P md ops Q fuel listed a w
  | 0, _, _, _, h => h
  | fuel + 1, _, _, _, h => ⟨h.1, fun i hi => wpOpIn_mono (fun a' w' h' => any_of_S fuel _ a' w' h'.2) (h.2 i hi)⟩
theorem anyS_first {i : Nat} {oi : Oper} {v : Value} (hro : F.round = none) (hi : ops[i]? = some oi) (hsel : ∀ (j : Nat) (o : Oper) cs b, ops[j]? = some o → o.op ≠ .select cs b) (hQ : ∀ c a w, Q (.panic c) (a.put oi.dst v) w → Q (.panic c) a w) :
    ∀ (fuel : Nat) (listed : Array Bool) (a : Act) (w : World), (∀ j oj, ops[j]? = some oj → j ≠ i → listed.getD j true = false → (∀ e ∈ oj.after, Region.binds md e = true → e.on ≠ i) → oi.apart ops oj = true) →
      i ∈ Region.ready md ops listed → YieldsS P ops S oi v a → S w → anyS F n P md ops Q S fuel (listed.setIfInBounds i true) (a.put oi.dst v) w → anyS F n P md ops Q S (fuel + 1) listed a w := by
  intro fuel
  induction fuel with
  | zero =>
    intro listed a w _ hr hy hS H
    refine ⟨fun h => (by rw [h] at hr; cases hr), fun j hj => ?_⟩
    by_cases hji : j = i
    · subst hji; exact hy.op hro hi hS ⟨hS, H⟩
    · have := ready_mono hj hji
      rw [H.1] at this
      cases this
  | succ fuel ih =>
    intro listed a w hfree hr hy hS H
    refine ⟨fun h => (by rw [h] at hr; cases hr), fun j hj => ?_⟩
    by_cases hji : j = i
    · subst hji; exact hy.op hro hi hS ⟨hS, H⟩
    · have h1 := H.2 j (ready_mono hj hji)
      obtain ⟨hjun, oj, hoj, hall⟩ := mem_ready.1 hj
      have hnot : ∀ e ∈ oj.after, Region.binds md e = true → e.on ≠ i := fun e he hb heq => by
        have h1 := hall e he hb
        have h0 := (mem_ready.1 hr).1
        rw [heq] at h1
        rcases Nat.lt_or_ge i listed.size with h' | h'
        · simp [h'] at h0 h1; rw [h0] at h1; cases h1
        · simp [Array.getElem?_eq_none h'] at h1
      have h2 := opIn_put hro hoj (hfree j oj hoj hji hjun hnot) (fun cs b => hsel i oi cs b hi) (fun cs b => hsel j oj cs b hoj) hQ hy h1
      have hfree' : ∀ k ok, ops[k]? = some ok → k ≠ i → (listed.setIfInBounds j true).getD k true = false → (∀ e ∈ ok.after, Region.binds md e = true → e.on ≠ i) → oi.apart ops ok = true := fun k ok hk hki hun hno => by
        refine hfree k ok hk hki ?_ hno
        by_cases hjk : j = k
        · subst hjk; exact hjun
        · rw [getD_set_ne true hjk] at hun; exact hun
      refine wpOpIn_mono (fun a' w' h3 => ⟨h3.2.1, ih (listed.setIfInBounds j true) a' w' hfree' (ready_mono hr (Ne.symm hji)) h3.1 h3.2.1 ?_⟩) h2
      rw [Array.setIfInBounds_comm _ _ hji]
      exact h3.2.2
theorem anyS_take {i : Nat} {oi : Oper} {v : Value} {fuel : Nat} {listed : Array Bool} {a : Act} {w : World} (hro : F.round = none) (hi : ops[i]? = some oi)
    (hs : Region.noSelect ops = true) (hf : Region.free md ops listed i = true) (hr : (Region.ready md ops listed).contains i = true) (hQ : ∀ c a w, Q (.panic c) (a.put oi.dst v) w → Q (.panic c) a w)
    (hab : ∀ w, oi.about P w a.eval = none) (hw : Region.wanted oi (yielded ops a.tmps) = true) (hS : S w) (hy : ∀ w, S w → (execOp a.eval oi).run P w = .ok (.value v) w)
    (h : anyS F n P md ops Q S fuel (listed.setIfInBounds i true) (a.put oi.dst v) w) : anyS F n P md ops Q S (fuel + 1) listed a w :=
  anyS_first hro hi (Region.noSelect_spec hs) hQ fuel listed a w (Region.free_spec hi hf) (by simpa using hr) ⟨.inl ⟨hw, hy⟩, hab⟩ hS h
theorem anyS_at {i d : Nat} {oi : Oper} {v : Value} {fuel : Nat} {listed : Array Bool} {a : Act} {w : World} (hro : F.round = none) (hi : ops[i]? = some oi) (hd : oi.dst = some d)
    (hs : Region.noSelect ops = true) (hf : Region.free md ops listed i = true) (hr : (Region.ready md ops listed).contains i = true) (hQ : ∀ c a w, Q (.panic c) (a.put (some d) v) w → Q (.panic c) a w)
    (hab : ∀ w, oi.about P w a.eval = none) (hw : Region.wanted oi (yielded ops a.tmps) = true) (hS : S w) (hy : ∀ w, S w → (execOp a.eval oi).run P w = .ok (.value v) w)
    (h : anyS F n P md ops Q S fuel (listed.setIfInBounds i true) { tmps := a.tmps.setIfInBounds d v, defers := a.defers } w) : anyS F n P md ops Q S (fuel + 1) listed a w :=
  anyS_take hro hi hs hf hr (fun c a w h => hQ c a w (by rw [hd] at h; exact h)) hab hw hS hy (by rw [hd]; exact h)
theorem anyS_one {i : Nat} {o : Oper} {fuel : Nat} {listed : Array Bool} {a : Act} {w : World} (hr : Region.ready md ops listed = [i]) (ho : ops[i]? = some o)
    (h : ∀ K' : Act → World → Prop, (∀ a w, S w → anyS F n P md ops Q S fuel (listed.setIfInBounds i true) a w → K' a w) → if Region.wanted o (yielded ops a.tmps) = true then Oper.wpIn F n P o a w K' Q else (∀ f, o.about P w a.eval = some f → F.fn f) ∧ K' (a.put o.dst undef) w) :
    anyS F n P md ops Q S (fuel + 1) listed a w := by
  refine ⟨fun h0 => (by rw [hr] at h0; cases h0), fun j hj => ?_⟩
  rw [hr] at hj
  obtain rfl : j = i := by simpa using hj
  exact wpOpIn_step ho (fun K' hK => h K' (fun a w hS hW => hK a w ⟨hS, hW⟩))
theorem anyS_done {listed : Array Bool} {a : Act} {w : World} (hr : Region.ready md ops listed = []) (h : Q .normal a w) : ∀ fuel, anyS F n P md ops Q S fuel listed a w
  | 0 => ⟨hr, h⟩
  | _ + 1 => ⟨fun _ => h, by rw [hr]; simp⟩
theorem region_S {id : Nat} {a : Act} {w : World} (S : World → Prop) (hm : P.follows .mixedOrders = true) (h : anyS F n P .any ops Q S ops.size (Array.replicate ops.size false) a w.drew) : (Code.region id ops true).wpIn F n P Q a w :=
  wpIn_region_any hm (any_of_S _ _ _ _ h)
end
end Go.Proofs.Ytobljkhidgbeoaa.Oct
