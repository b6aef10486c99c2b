import Derived.RangeFuncNested
import Derived.RangeFuncBound
import Derived.RangeFuncCalls
import Derived.RangeFuncLeaves
import Derived.Shelf.Abstract
import Derived.WalkKit
import Derived.OwnWalkIn
import Derived.TacticsInMore
import Derived.LoopNIn
import Derived.LoopIn
import Derived.Test.YtobljkhidgbeoaaZ09
/- (The loop's own variables may be boxed.) A range over a function whose values lie in memory that the function has made: what is handed over is told of the world at hand (Rx). -/
namespace Go.Proofs.Ytobljkhidgbeoaa.Oct
open Go.RowKit
variable {α : Type} {P : Program} {n : Nat}
/-- the loop's record -/
abbrev recOf (fn : FuncId) (a : Act) (ps : Array Tmp) (assign body : Code) (D : Nat) (st : LoopState) (pe : Option Code) : Loop :=
  { state := st, pending := pe, fn := fn, tmps := a.tmps, params := ps, assign := assign, body := body, defers := D }
/-- what an iterator owes: whatever is said of worlds and stands behind new blocks, each round is told x at a world that Rx lets by -/
def Iter (P : Program) (n gf : Nat) (lb : Array Value) (encs : α → Array Value) (Rx : α → World → Prop) (Tx : List α → α → Prop) (Kp : World → World → Prop) (S Sp : List α → Prop) (w : World) : Prop :=
  ∀ (l : Nat) (J Jx : List α → World → Prop) (W : World), Below w.heap.size w W → (∀ s A B, J s A → Below A.heap.size A B → J s B) → (∀ s A B, Jx s A → Below A.heap.size A B → Jx s B) →
    (∀ pre x W1, J pre W1 → Rx x W1 → Tx pre x → YieldAt Fence.wide (n - 1) P l (encs x) W1 (fun e W' => (e = .returned (.bool true) ∧ J (pre ++ [x]) W' ∧ Kp W1 W') ∨ (e = .returned (.bool false) ∧ Jx (pre ++ [x]) W' ∧ Kp W1 W'))) →
    J [] W → CallsIn Fence.wide n P gf (#[.func (.yield l) #[] #[]] ++ lb) W (fun e W' => (∃ v, e = .returned v) ∧ ((∃ xs, S xs ∧ J xs W') ∨ ∃ pre, Sp pre ∧ Jx pre W'))
/-- how a round's body may be left -/
def Left (Kp : World → World → Prop) (I : List α → World → Prop) (Ix : Code → List α → World → Prop) (xs : List α) (W : World) : Exit → Act → World → Prop
  | .normal, _, W' => KeepsOthers W W' ∧ Kp W W' ∧ I xs W'
  | .exit id, _, W' => KeepsOthers W W' ∧ Kp W W' ∧ Ix (.exit id) xs W'
  | _, _, _ => False
/-- a block that is no cells, of the law's own -/
def Turns (B : Nat) (X : World → Prop) : Prop := ∀ A l o o', X A → B ≤ l → A.heap[l]? = some o → o.isCells = false → X (A.putObj l o')
theorem ends_round {fn : FuncId} {a : Act} {ps : Array Tmp} {assign body : Code} {l D : Nat} {W : World} (hD : D ≠ l) (hl : W.heap[l]? = some (.loop (recOf fn a ps assign body D .busy none))) (hk : W.heap[D]? = some (.deferred (some []))) (jump : Option Code) :
    ∃ W', W' = W.putObj l (.loop (recOf fn a ps assign body D (if jump.isNone then .ready else .done) jump)) ∧ (Instr.endRound l jump).run P W = .ok (.bool jump.isNone) W' ∧ W'.heap[l]? = some (.loop (recOf fn a ps assign body D (if jump.isNone then .ready else .done) jump)) ∧ W'.heap[D]? = some (.deferred (some [])) :=
  ⟨_, rfl, run_endRound jump hl, World.putObj_heap_same (Array.getElem?_eq_some_iff.1 hl).1, (World.putObj_heap_other hD).trans hk⟩
theorem loop_box {g : Operand} {ps : Array Tmp} {assign body : Code} {Q : Exit → Act → World → Prop} {a : Act} {w : World} {gf : Nat} {lb : Array Value}
    (hg : a.eval g = .func (.func gf) #[] lb) (eg : ∀ args w, (callFunc gf args).run P w = .ok (.enter gf args) w)
    {encs : α → Array Value} {Rx : α → World → Prop} {Tx : List α → α → Prop} {Kp : World → World → Prop} {S Sp : List α → Prop} (hps : ∀ x, (encs x).size = ps.size) (hit : ∀ W, Below w.heap.size w W → Iter P (n - 1) gf lb encs Rx Tx Kp S Sp W)
    (I : List α → World → Prop) (Ix : Code → List α → World → Prop)
    (hIb : ∀ s A B, I s A → Below A.heap.size A B → I s B) (hXb : ∀ c s A B, Ix c s A → Below A.heap.size A B → Ix c s B)
    (hIp : ∀ s, Turns w.heap.size (I s)) (hXp : ∀ c s, Turns w.heap.size (Ix c s)) (hRp : ∀ x, Turns w.heap.size (Rx x))
    (hKt : ∀ A B C, Kp A B → Kp B C → Kp A C) (hKp : ∀ A l o o', w.heap.size ≤ l → A.heap[l]? = some o → o.isCells = false → Kp A (A.putObj l o'))
    (h0 : I [] w) (Ax : α → Act → World → Prop) (hAp : ∀ x a', Turns w.heap.size (Ax x a'))
    (hassign : ∀ (l : Nat) (pre : List α) (x : α) (W : World) (K : Act → World → Prop), I pre W → Rx x W → (∀ a' W', Ax x a' W' → I pre W' → Rx x W' → KeepsOthers W W' → Kp W W' → K a' W') → assign.wpIn (Fence.wide.inRound l) (n - 1 - 1) P (Exit.then K (fun _ _ _ => False)) { tmps := (ps.zip (encs x)).foldl (fun t (p, v) => t.setIfInBounds p v) a.tmps, defers := [] } W)
    (hbody : ∀ (l : Nat) (pre : List α) (x : α) (a' : Act) (W : World), I pre W → Rx x W → Tx pre x → Ax x a' W → body.wpIn (Fence.wide.inRound l) (n - 1 - 1) P (Left Kp I Ix (pre ++ [x]) W) a' W)
    (hdone : ∀ (D : Nat) (xs : List α) (W : World), w.heap.size ≤ D → S xs → I xs W → W.heap[D]? = some (.deferred (some [])) → Q .normal { a with defers := { target := .collected D, args := #[] } :: a.defers } W)
    (hstop : ∀ (D : Nat) (c : Code) (pre : List α) (W : World), w.heap.size ≤ D → Sp pre → Ix c pre W → W.heap[D]? = some (.deferred (some [])) → c.wpIn Fence.wide n P Q { a with defers := { target := .collected D, args := #[] } :: a.defers } W) :
    (Code.rangeFunc g ps assign body).wpIn Fence.wide n P Q a w := by
  refine wpIn_rangeFunc (fun fn hfn => ?_)
  obtain ⟨D, hD⟩ : ∃ D, D = w.heap.size := ⟨_, rfl⟩
  obtain ⟨V, hV⟩ : ∃ V, V = (w.alloc (.deferred (some []))).alloc (.loop (recOf fn a ps assign body w.heap.size .ready none)) := ⟨_, rfl⟩
  have hbV : Below w.heap.size w V := by rw [hV]; exact ((Below.refl _ w).alloc (Nat.le_refl _) _).alloc (by simp) _
  have hlV : V.heap[D + 1]? = some (.loop (recOf fn a ps assign body D .ready none)) := by
    rw [hV, hD]
    have := World.alloc_heap_new (w.alloc (.deferred (some []))) (.loop (recOf fn a ps assign body w.heap.size .ready none))
    rwa [World.size_alloc] at this
  have hkV : V.heap[D]? = some (.deferred (some [])) := by
    rw [hV, hD]
    exact (Below.heap_alloc _ _ _ (by simp)).trans (World.alloc_heap_new w _)
  have hrun := run_enterLoop_outer (P := P) (w := w) fn a.tmps ps assign body
  rw [← hV] at hrun
  refine ⟨w.heap.size + 1, _, V, { target := .fn (.func gf) lb, args := #[.func (.yield (w.heap.size + 1)) #[] #[]] }, V, gf, #[.func (.yield (w.heap.size + 1)) #[] #[]] ++ lb, V, hrun, ?_, fun _ _ => trivial, ?_, fun h => by simp [Fence.wide] at h, ?_⟩
  · simp only [resolve, hg]
    simp [go_sem]
  · simp [invoke, go_sem, eg]
  rw [← hD]
  have hDl : D ≠ D + 1 := by omega
  have call := hit V hbV (D + 1)
    (fun pre W => I pre W ∧ W.heap[D + 1]? = some (.loop (recOf fn a ps assign body D .ready none)) ∧ W.heap[D]? = some (.deferred (some [])))
    (fun pre W => ∃ c, Ix c pre W ∧ W.heap[D + 1]? = some (.loop (recOf fn a ps assign body D .done (some c))) ∧ W.heap[D]? = some (.deferred (some [])))
    V (Below.refl _ _)
    (fun s A B h hb => ⟨hIb s A B h.1 hb, (hb.block _ (Array.getElem?_eq_some_iff.1 h.2.1).1).trans h.2.1, (hb.block _ (Array.getElem?_eq_some_iff.1 h.2.2).1).trans h.2.2⟩)
    (fun s A B h hb => by
      obtain ⟨c, h1, h2, h3⟩ := h
      exact ⟨c, hXb c s A B h1 hb, (hb.block _ (Array.getElem?_eq_some_iff.1 h2).1).trans h2, (hb.block _ (Array.getElem?_eq_some_iff.1 h3).1).trans h3⟩)
    ?_ ⟨hIb _ _ _ h0 hbV, hlV, hkV⟩
  · refine call.mono ?_
    rintro e W2 ⟨⟨v, rfl⟩, (⟨xs, hS, hi, hl, hk⟩ | ⟨pre, hS, c, hi, hl, hk⟩)⟩
    · refine ⟨none, _, run_endLoop hl (by simp), ?_⟩
      rw [hD]
      exact hdone _ xs _ (Nat.le_refl _) hS (by rw [← hD]; exact hIp _ _ _ _ _ hi (by omega) hl rfl) (by rw [← hD]; exact (World.putObj_heap_other hDl).trans hk)
    · refine ⟨some c, _, run_endLoop hl (by simp), ?_⟩
      rw [hD]
      exact hstop _ c pre _ (Nat.le_refl _) hS (by rw [← hD]; exact hXp _ _ _ _ _ _ hi (by omega) hl rfl) (by rw [← hD]; exact (World.putObj_heap_other hDl).trans hk)
  · rintro pre x W ⟨hi, hl, hk⟩ hx hT
    refine ⟨fn, _, assign, body, run_yield hl (hps x), roundIn_of_wpIn hfn (hassign _ pre x W _ hi hx (fun a' V ha hiV hxV hoV hKV => ?_))⟩
    have hlV2 := hoV.same _ _ hl rfl
    have hkV2 := hoV.same _ _ hk rfl
    have hlt : D + 1 < V.heap.size := (Array.getElem?_eq_some_iff.1 hlV2).1
    obtain ⟨U, hU⟩ : ∃ U, U = V.putObj (D + 1) (.loop (recOf fn a ps assign body D .busy none)) := ⟨_, rfl⟩
    have hbeg : (Instr.beginRound (D + 1)).run P V = .ok () U := by rw [hU]; exact run_beginRound hlV2 rfl
    have hlU : U.heap[D + 1]? = some (.loop (recOf fn a ps assign body D .busy none)) := by rw [hU]; exact World.putObj_heap_same hlt
    have hkU : U.heap[D]? = some (.deferred (some [])) := by rw [hU]; exact (World.putObj_heap_other hDl).trans hkV2
    have hiU : I pre U := by rw [hU]; exact hIp _ _ _ _ _ hiV (by omega) hlV2 rfl
    have hxU : Rx x U := by rw [hU]; exact hRp _ _ _ _ _ hxV (by omega) hlV2 rfl
    have haU : Ax x a' U := by rw [hU]; exact hAp _ _ _ _ _ _ ha (by omega) hlV2 rfl
    have hKU : Kp W U := hKt _ _ _ hKV (by rw [hU]; exact hKp _ _ _ _ (by omega) hlV2 rfl)
    refine ⟨U, hbeg, wpIn_mono (hbody _ pre x a' U hiU hxU hT haU) ?_⟩
    rintro e a3 W3 hp
    cases e with
    | normal =>
      obtain ⟨hk3, hkp3, hi3⟩ := hp
      have hl3 := hk3.same _ _ hlU rfl
      obtain ⟨W4, hW4, hr, hl4, hk4⟩ := ends_round (P := P) hDl hl3 (hk3.same _ _ hkU rfl) none
      exact ⟨_, W4, hr, .inl ⟨rfl, ⟨by rw [hW4]; exact hIp _ _ _ _ _ hi3 (by omega) hl3 rfl, hl4, hk4⟩, hKt _ _ _ (hKt _ _ _ hKU hkp3) (by rw [hW4]; exact hKp _ _ _ _ (by omega) hl3 rfl)⟩⟩
    | exit id =>
      obtain ⟨hk3, hkp3, hi3⟩ := hp
      have hl3 := hk3.same _ _ hlU rfl
      obtain ⟨W4, hW4, hr, hl4, hk4⟩ := ends_round (P := P) hDl hl3 (hk3.same _ _ hkU rfl) (some (.exit id))
      exact ⟨_, W4, hr, .inr ⟨rfl, ⟨_, by rw [hW4]; exact hXp _ _ _ _ _ _ hi3 (by omega) hl3 rfl, hl4, hk4⟩, hKt _ _ _ (hKt _ _ _ hKU hkp3) (by rw [hW4]; exact hKp _ _ _ _ (by omega) hl3 rfl)⟩⟩
    | ret => exact hp.elim
    | goto t => exact hp.elim
    | panic ch => exact hp.elim
    | outgrown => exact hp.elim
end Go.Proofs.Ytobljkhidgbeoaa.Oct
/- A range over a function whose one round, if there is one, leaves by a jump; told in parts of memory. -/
namespace Go.Proofs.Ytobljkhidgbeoaa.Oct
open Go.RowKit
variable {P : Program} {n : Nat}
theorem kp_put {w W : World} {F : Nat → Prop} {b : Nat} (h : Kp w F W) (hb : New w F b) (o : Obj) : Kp w F (W.putObj b o) :=
  ⟨h.os, h.tape, h.output, Nat.le_trans h.size (by simp), fun k hk hf => by
    rw [World.putObj_heap_other (fun e => ?_)]
    · exact h.block k hk hf
    · rcases hb with h' | h'
      · exact hf (by rw [e]; exact h')
      · have h' : w.heap.size ≤ b := h'
        omega⟩
theorem St.putO {w W : World} {F : Nat → Prop} {b : Nat} {o : Obj} {l : List Part} (h : St w F W (pt b o :: l)) (o' : Obj) : St w F (W.putObj b o') (pt b o' :: l) :=
  ⟨h.1.put (by simp) (World.putObj_heap_same (Array.getElem?_eq_some_iff.1 h.heap).1) (fun k hk _ => World.putObj_heap_other hk), kp_put h.2 h.1.heap.2 o'⟩
theorem St.tl {w W : World} {F : Nat → Prop} {A : Part} {l : List Part} (h : St w F W (A :: l)) : St w F W l := ⟨h.1.tail, h.2⟩
/-- how the round is left -/
def LeftBy (w : World) (F : Nat → Prop) (Pl Pd : Part) (R : Code → List Part → Prop) : Exit → Act → World → Prop
  | .exit id, _, W' => ∃ l', R (.exit id) l' ∧ St w F W' (Pl :: Pd :: l')
  | _, _, _ => False
theorem loop_once {g : Operand} {ps : Array Tmp} {assign body : Code} {Q : Exit → Act → World → Prop} {a : Act} {w W : World} {F : Nat → Prop} {l0 : List Part} {gf : Nat} {lb : Array Value}
    (hg : a.eval g = .func (.func gf) #[] lb) (eg : ∀ args w, (callFunc gf args).run P w = .ok (.enter gf args) w)
    {enc : Array Value} (hps : enc.size = ps.size) {N B : Prop} (h0 : St w F W l0) (R : Code → List Part → Prop) (Xf : World → Prop) (hXf : ∀ (Pl Pd : Part) c l' W', R c l' → St w F W' (Pl :: Pd :: l') → Xf W')
    (hit : ∀ (l : Nat) (V : World) (X : World → Prop), Below W.heap.size W V → (∀ W', X W' → Xf W') → (B → ∀ W2, Below V.heap.size V W2 → YieldAt Fence.wide (n - 1 - 1) P l enc W2 (fun e W' => e = .returned (.bool false) ∧ X W')) →
      CallsIn Fence.wide (n - 1) P gf (#[.func (.yield l) #[] #[]] ++ lb) V (fun e W' => (∃ v, e = .returned v) ∧ ((N ∧ Below V.heap.size V W') ∨ X W')))
    (a₁ : Act)
    (hassign : ∀ (l : Nat) (W : World) (K : Act → World → Prop), K a₁ W → assign.wpIn (Fence.wide.inRound l) (n - 1 - 1) P (Exit.then K (fun _ _ _ => False)) { tmps := (ps.zip enc).foldl (fun t (p, v) => t.setIfInBounds p v) a.tmps, defers := [] } W)
    (hbody : B → ∀ (l D : Nat) (o o' : Obj) (U : World), W.heap.size ≤ D → W.heap.size ≤ l → St w F U (pt l o :: pt D o' :: l0) → body.wpIn (Fence.wide.inRound l) (n - 1 - 1) P (LeftBy w F (pt l o) (pt D o') R) a₁ U)
    (hdone : ∀ (D : Nat) (V : World), N → St w F V (pt D (.deferred (some [])) :: l0) → Q .normal { a with defers := { target := .collected D, args := #[] } :: a.defers } V)
    (hstop : ∀ (D : Nat) (c : Code) (l' : List Part) (V : World), R c l' → St w F V (pt D (.deferred (some [])) :: l') → c.wpIn Fence.wide n P Q { a with defers := { target := .collected D, args := #[] } :: a.defers } V) :
    (Code.rangeFunc g ps assign body).wpIn Fence.wide n P Q a W := by
  refine wpIn_rangeFunc (fun fn hfn => ?_)
  obtain ⟨D, hD⟩ : ∃ D, D = W.heap.size := ⟨_, rfl⟩
  obtain ⟨V, hV⟩ : ∃ V, V = (W.alloc (.deferred (some []))).alloc (.loop (recOf fn a ps assign body W.heap.size .ready none)) := ⟨_, rfl⟩
  have hbV : Below W.heap.size W V := by rw [hV]; exact ((Below.refl _ W).alloc (Nat.le_refl _) _).alloc (by simp) _
  have hSV : St w F V (pt (D + 1) (.loop (recOf fn a ps assign body D .ready none)) :: pt D (.deferred (some [])) :: l0) := by
    have h2 := (h0.alloc (.deferred (some []))).alloc (.loop (recOf fn a ps assign body W.heap.size .ready none))
    rw [World.size_alloc, ← hV, ← hD] at h2
    exact h2
  have hrun := run_enterLoop_outer (P := P) (w := W) fn a.tmps ps assign body
  rw [← hV] at hrun
  refine ⟨W.heap.size + 1, _, V, { target := .fn (.func gf) lb, args := #[.func (.yield (W.heap.size + 1)) #[] #[]] }, V, gf, #[.func (.yield (W.heap.size + 1)) #[] #[]] ++ lb, V, hrun, ?_, fun _ _ => trivial, ?_, fun h => by simp [Fence.wide] at h, ?_⟩
  · simp only [resolve, hg]
    simp [go_sem]
  · simp [invoke, go_sem, eg]
  rw [← hD]
  have call := hit (D + 1) V (fun W' => ∃ c l', R c l' ∧ St w F W' (pt (D + 1) (.loop (recOf fn a ps assign body D .done (some c))) :: pt D (.deferred (some [])) :: l')) hbV (fun W' ⟨c, l', hR, hS⟩ => hXf _ _ c l' W' hR hS) ?_
  · refine call.mono ?_
    rintro e W2 ⟨⟨v, rfl⟩, (⟨hN, hb⟩ | ⟨c, l', hR, hS⟩)⟩
    · have hS := hSV.below hb
      refine ⟨none, _, run_endLoop hS.heap (by simp), ?_⟩
      rw [hD]
      exact hdone _ _ hN (by rw [← hD]; exact (hS.putO _).tl)
    · refine ⟨some c, _, run_endLoop hS.heap (by simp), ?_⟩
      rw [hD]
      exact hstop _ c l' _ hR (by rw [← hD]; exact (hS.putO _).tl)
  · intro hB W2 hb
    have hS := hSV.below hb
    refine ⟨fn, _, assign, body, run_yield hS.heap hps, roundIn_of_wpIn hfn (hassign _ W2 _ ?_)⟩
    have hSU := hS.putO (.loop (recOf fn a ps assign body D .busy none))
    refine ⟨_, run_beginRound hS.heap rfl, wpIn_mono (hbody hB (D + 1) D _ _ _ (by omega) (by omega) hSU) ?_⟩
    rintro e a3 W3 hp
    cases e with
    | exit id =>
      obtain ⟨l', hR, hS3⟩ := hp
      exact ⟨_, _, run_endRound (some (.exit id)) hS3.heap, rfl, _, l', hR, hS3.putO _⟩
    | normal => exact hp.elim
    | ret => exact hp.elim
    | goto t => exact hp.elim
    | panic ch => exact hp.elim
    | outgrown => exact hp.elim
end Go.Proofs.Ytobljkhidgbeoaa.Oct
