import Derived.RangeFuncBox
import Derived.Test.YtobljkhidgbeoaaZ37
/- wal.Read. -/
namespace Go.Proofs.Ytobljkhidgbeoaa.Oct
open Go.RowKit Go.Proofs.YtobljkhidgbeoaaW.PrintWords Go.Proofs.Ytobljkhidgbeoaa.M
set_option linter.unusedVariables false
set_option linter.unusedSimpArgs false
attribute [local go_sem] Oper.semAt_some
theorem info_rec : (Try.prog.info? 50).map (fun i => (i.zero, i.size, i.bytes)) = some (some (.agg #[.int .i64 0, .slice none 0 0]), 2, 32) := by kernel_rfl
/-- records in memory of the call's own -/
def RW (W : World) (base : Nat) (v : Value) (ls : List Rc) : Prop := ∃ vs : List Value, W.ownsRow base 50 2 v ls.length vs ∧ ∀ (j : Nat) (r : Rc), ls[j]? = some r → vs[2 * j]? = some (.int .i64 r.1) ∧ ∃ u, vs[2 * j + 1]? = some u ∧ OB W base u r.2
theorem RW.nil (W : World) (base : Nat) : RW W base (.slice none 0 0) [] := ⟨[], own_nil _ _ _ _, fun j r h => by simp at h⟩
theorem RW.move {W W' : World} {base : Nat} {v : Value} {ls : List Rc} (h : RW W base v ls) (hm : ∀ k, base ≤ k → k < W.heap.size → W'.heap[k]? = W.heap[k]?) : RW W' base v ls := by
  obtain ⟨vs, h1, h2⟩ := h
  refine ⟨vs, own_move h1 (fun k hk => hm k (own_base h1 k hk) (own_lt h1 k hk)), fun j r hj => ?_⟩
  obtain ⟨e1, u, e2, ho⟩ := h2 j r hj
  exact ⟨e1, u, e2, own_move ho (fun k hk => hm k (own_base ho k hk) (own_lt ho k hk))⟩
theorem RW.below {W W' : World} {base : Nat} {v : Value} {ls : List Rc} (h : RW W base v ls) (hb : Below W.heap.size W W') : RW W' base v ls := h.move (fun k _ hk => hb.block k hk)
theorem RW.turn {A : World} {base l : Nat} {v : Value} {ls : List Rc} {o o' : Obj} (h : RW A base v ls) (hl : A.heap[l]? = some o) (ho : o.isCells = false) : RW (A.putObj l o') base v ls := by
  obtain ⟨vs, h1, h2⟩ := h
  refine ⟨vs, ownsRow_putObj h1 o' hl ho, fun j r hj => ?_⟩
  obtain ⟨e1, u, e2, hu⟩ := h2 j r hj
  exact ⟨e1, u, e2, ownsRow_putObj hu o' hl ho⟩
theorem RW.lower {W : World} {base base' : Nat} {v : Value} {ls : List Rc} (h : RW W base v ls) (hb : base' ≤ base) : RW W base' v ls := by
  obtain ⟨vs, h1, h2⟩ := h
  refine ⟨vs, own_weaken h1 hb, fun j r hj => ?_⟩
  obtain ⟨e1, u, e2, ho⟩ := h2 j r hj
  exact ⟨e1, u, e2, own_weaken ho hb⟩
theorem RW.form {W : World} {base : Nat} {v : Value} {ls : List Rc} (h : RW W base v ls) : ∃ A c, v = .slice A ls.length c := by
  obtain ⟨vs, h1, _⟩ := h
  rcases h1.2 with ⟨e, h0⟩ | ⟨g, cap, cur, e, _⟩
  · exact ⟨none, 0, by rw [e, h0]⟩
  · exact ⟨_, _, e⟩
theorem RW.add {W w1 : World} {base : Nat} {vout v1 u : Value} {ls : List Rc} {r : Rc} {vs : List Value} (e2 : W.ownsRow base 50 2 vout ls.length vs) (e3 : ∀ (j : Nat) (r : Rc), ls[j]? = some r → vs[2 * j]? = some (.int .i64 r.1) ∧ ∃ u, vs[2 * j + 1]? = some u ∧ OB W base u r.2) (hq : OB W base u r.2)
    (ho1 : w1.ownsRow base 50 2 v1 (ls.length + 1) (vs ++ [.int .i64 r.1, u])) (hblk : ∀ k, k < W.heap.size → some k ≠ vout.ownBlock → w1.heap[k]? = W.heap[k]?) : RW w1 base v1 (ls ++ [r]) := by
  have hmove : ∀ {u' : Value} {l' : List Int}, OB W base u' l' → OB w1 base u' l' := fun {u' l'} ho => own_move ho (fun k hk => hblk k (own_lt ho k hk) (fun e => by
    rcases own_type_ne e2 ho (by decide) with h | h
    · rw [← e] at h; cases h
    · exact h (e.symm.trans hk.symm)))
  have hl := e2.1
  refine ⟨vs ++ [.int .i64 r.1, u], by rw [List.length_append]; exact ho1, fun j q hj => ?_⟩
  rcases Nat.lt_or_ge j ls.length with h | h
  · rw [List.getElem?_append_left h] at hj
    obtain ⟨f1, u', f2, f3⟩ := e3 j q hj
    rw [List.getElem?_append_left (by omega), List.getElem?_append_left (by omega)]
    exact ⟨f1, u', f2, hmove f3⟩
  · have hjl : j = ls.length := by have := (List.getElem?_eq_some_iff.1 hj).1; simp at this; omega
    subst hjl
    rw [List.getElem?_append_right (Nat.le_refl _), Nat.sub_self] at hj
    obtain rfl : q = r := by simpa using hj.symm
    rw [List.getElem?_append_right (by omega), List.getElem?_append_right (by omega), show 2 * ls.length - vs.length = 0 by omega, show 2 * ls.length + 1 - vs.length = 1 by omega]
    exact ⟨rfl, u, rfl, hmove hq⟩
/-! ### what stands behind a turn of a block that is no cells -/
theorem turn_blk {A : World} {l k : Nat} {o o' : Obj} {cs : Array Value} {t : TypeId} {fr : Nat × Nat} (h : A.heap[k]? = some (.cells cs t fr)) (hl : A.heap[l]? = some o) (ho : o.isCells = false) : (A.putObj l o').heap[k]? = A.heap[k]? :=
  World.putObj_heap_other (fun e => by subst e; rw [h] at hl; injection hl with hl; rw [← hl] at ho; exact absurd ho (by simp [Obj.isCells]))
theorem turn_below {n0 l : Nat} {w A : World} (h : Below n0 w A) (hn : n0 ≤ w.heap.size) (hl : n0 ≤ l) (o : Obj) : Below n0 w (A.putObj l o) :=
  h.grown (grownBy_putObj' A l o) (Nat.le_trans hn h.size) (fun k e => by injection e with e; omega)
def endL (l : List (Nat × Rc)) : Int := match l.getLast? with | some q => (q.1 : Int) | none => 0
theorem endL_snoc (l : List (Nat × Rc)) (q : Nat × Rc) : endL (l ++ [q]) = q.1 := by simp [endL]
/-- between two rounds -/
def SI (w : World) (p4 p5 base : Nat) (pre : List XR) (W : World) : Prop := ∃ vout : Value, W.heap[p4]? = some (.cells #[vout] 28 (0, 0)) ∧ W.heap[p5]? = some (.cells #[.int .i64 (endL (pre.map tell))] 3 (0, 0)) ∧ RW W base vout (pre.map fun x => (tell x).2) ∧ base ≤ W.heap.size ∧ Below w.heap.size w W
theorem SI.below {w : World} {p4 p5 base : Nat} {s : List XR} {A B : World} (h : SI w p4 p5 base s A) (hb : Below A.heap.size A B) : SI w p4 p5 base s B := by
  obtain ⟨vout, h4, h5, h6, h8, h7⟩ := h
  exact ⟨vout, blk_keep h4 hb, blk_keep h5 hb, h6.below hb, Nat.le_trans h8 hb.size, h7.trans (hb.mono h7.size)⟩
theorem SI.turn {w : World} {p4 p5 base B : Nat} (hB : w.heap.size ≤ B) (s : List XR) : Turns B (SI w p4 p5 base s) := by
  rintro A l o o' ⟨vout, h4, h5, h6, h8, h7⟩ hl ho hc
  exact ⟨vout, (turn_blk h4 ho hc).trans h4, (turn_blk h5 ho hc).trans h5, h6.turn ho hc, by simpa using h8, turn_below h7 (Nat.le_refl _) (by omega) _⟩
theorem Rx.turn {base B : Nat} (x : XR) : Turns B (Rx base x) := fun A l o o' h hl ho hc => ownsRow_putObj h o' ho hc
theorem Rx.below {base : Nat} {x : XR} {A B : World} (h : Rx base x A) (hb : Below A.heap.size A B) : Rx base x B := own_move h (fun k hk => hb.block k (own_lt h k hk))
theorem Kw.turn {n0 Bs B : Nat} (hn : n0 ≤ B) (hs : Bs < B) (A : World) (l : Nat) (o o' : Obj) (hl : B ≤ l) (h : A.heap[l]? = some o) (hc : o.isCells = false) : Kw n0 Bs A (A.putObj l o') :=
  ⟨by simp, fun k hk _ => World.putObj_heap_other (by rcases hk with h | h <;> omega)⟩
theorem one_at {W : World} {b : Nat} {v : Value} {t : TypeId} (h : W.heap[b]? = some (.cells #[v] t (0, 0))) : W.cell? ⟨b, 0, none⟩ = some v ∧ W.frozen? ⟨b, 0, none⟩ = false := by
  refine ⟨?_, ?_⟩ <;> simp [World.cell?, World.frozen?, h]
theorem cell_two_new (w : World) (x y : Value) (t : TypeId) : ∀ j u, [x, y][j]? = some u → (w.alloc (.cells #[x, y] t)).cell? ((⟨w.heap.size, 0, none⟩ : Addr).add j) = some u := by
  intro j u hj
  match j, hj with
  | 0, hj => simp at hj; subst hj; simp [Addr.add]
  | 1, hj => simp at hj; subst hj; simp [Addr.add]
/-- the loop's own variables, as a round begins -/
def Ax (base : Nat) (A : Option Addr) (len c Bs p4 p5 : Nat) (x : XR) (a : Act) (W : World) : Prop := ∃ r7, base ≤ r7 ∧ W.heap[r7]? = some (.cells #[.int .i64 x.2.1, x.2.2.1] 50 (0, 0)) ∧
  a = { tmps := #[.slice A len c, undef, .slice none 0 0, .int .i64 0, .pointer (some ⟨p4, 0, none⟩), .pointer (some ⟨p5, 0, none⟩), .int .i64 (x.1 : Int), .pointer (some ⟨r7, 0, none⟩), .slice A len c, .func (.func 69) #[] #[.pointer (some ⟨Bs, 0, none⟩)], .int .i64 (x.1 : Int), .agg #[.int .i64 x.2.1, x.2.2.1], undef, undef, undef, undef, undef, undef, undef], defers := [] }
theorem Ax.turn {base B : Nat} {A : Option Addr} {len c Bs p4 p5 : Nat} (x : XR) (a : Act) : Turns B (Ax base A len c Bs p4 p5 x a) := by
  rintro W l o o' ⟨r7, h1, h2, h3⟩ hl ho hc
  exact ⟨r7, h1, (turn_blk h2 ho hc).trans h2, h3⟩
theorem row_next {w W w1 : World} {p4 p5 base Bs at_ g n cap : Nat} {k : Int} {vout v : Value} {pre : List XR} {vs : List Value} {q : List Int}
    (hP : w.heap.size ≤ p4 ∧ w.heap.size ≤ p5 ∧ p5 ≠ p4 ∧ Bs ≠ p4 ∧ Bs ≠ p5 ∧ p4 < base ∧ p5 < base ∧ Bs < base ∧ w.heap.size ≤ base) (h4 : W.heap[p4]? = some (.cells #[vout] 28 (0, 0))) (h5 : W.heap[p5]? = some (.cells #[.int .i64 (endL (pre.map tell))] 3 (0, 0))) (hbs : base ≤ W.heap.size) (hb : Below w.heap.size w W)
    (e2 : W.ownsRow base 50 2 vout (pre.map fun x => (tell x).2).length vs) (e3 : ∀ (j : Nat) (r : Rc), (pre.map fun x => (tell x).2)[j]? = some r → vs[2 * j]? = some (.int .i64 r.1) ∧ ∃ u, vs[2 * j + 1]? = some u ∧ OB W base u r.2) (hq : OB W base v q)
    (ho1 : w1.ownsRow base 50 2 (.slice (some ⟨g, 0, none⟩) n cap) ((pre.map fun x => (tell x).2).length + 1) (vs ++ [.int .i64 k, v])) (hg1 : (W.alloc (.cells #[.int .i64 k, v] 50)).grownBy w1 vout.ownBlock) :
    w1.heap[p4]? = some (.cells #[vout] 28 (0, 0)) ∧ (w1.setCell ⟨p4, 0, none⟩ (.slice (some ⟨g, 0, none⟩) n cap)).heap[p5]? = some (.cells #[.int .i64 (endL (pre.map tell))] 3 (0, 0)) ∧
    KeepsOthers W ((w1.setCell ⟨p4, 0, none⟩ (.slice (some ⟨g, 0, none⟩) n cap)).setCell ⟨p5, 0, none⟩ (.int .i64 (at_ : Int))) ∧ Kw w.heap.size Bs W ((w1.setCell ⟨p4, 0, none⟩ (.slice (some ⟨g, 0, none⟩) n cap)).setCell ⟨p5, 0, none⟩ (.int .i64 (at_ : Int))) ∧ SI w p4 p5 base (pre ++ [(at_, k, v, q)]) ((w1.setCell ⟨p4, 0, none⟩ (.slice (some ⟨g, 0, none⟩) n cap)).setCell ⟨p5, 0, none⟩ (.int .i64 (at_ : Int))) := by
  obtain ⟨q1, q2, q3, q4, q5, q6, q7, q8, q9⟩ := hP
  have hsz : W.heap.size ≤ w1.heap.size := Nat.le_trans (by simp) hg1.size
  have hblk : ∀ k, k < W.heap.size → some k ≠ vout.ownBlock → w1.heap[k]? = W.heap[k]? := fun k hk hne => (hg1.block k (by simp; omega) hne).trans (Below.heap_alloc W _ k hk)
  have hlow : ∀ k, k < base → some k ≠ vout.ownBlock := fun k hk e => by have := own_base e2 k e.symm; omega
  have lt4 := (Array.getElem?_eq_some_iff.1 h4).1
  have lt5 := (Array.getElem?_eq_some_iff.1 h5).1
  have k4 := (hblk p4 lt4 (hlow _ q6)).trans h4
  have k5 := (hblk p5 lt5 (hlow _ q7)).trans h5
  have k5' : (w1.setCell ⟨p4, 0, none⟩ (.slice (some ⟨g, 0, none⟩) n cap)).heap[p5]? = some (.cells #[.int .i64 (endL (pre.map tell))] 3 (0, 0)) := by
    rw [Below.heap_setCell _ ⟨p4, 0, none⟩ _ p5 q3]; exact k5
  refine ⟨k4, k5', ?_, ?_, ?_⟩
  · refine (((KeepsOthers.alloc W _).trans (KeepsOthers.of_grownBy hg1 (fun j o hj ho => ?_))).trans (KeepsOthers.setCell _ _ _)).trans (KeepsOthers.setCell _ _ _)
    obtain ⟨cur, hc⟩ := own_typed e2 j hj
    have := blk_keep hc (below_alloc (Below.refl _ _) (.cells #[.int .i64 k, v] 50))
    rw [this] at ho
    injection ho with ho
    rw [← ho]
    rfl
  · refine ⟨by simp [World.setCell]; exact hsz, fun k hk hl => ?_⟩
    rw [Below.heap_setCell _ ⟨p5, 0, none⟩ _ k (by show k ≠ p5; rcases hk with h | h <;> omega), Below.heap_setCell _ ⟨p4, 0, none⟩ _ k (by show k ≠ p4; rcases hk with h | h <;> omega)]
    exact hblk k hl (hlow _ (by rcases hk with h | h <;> omega))
  · refine ⟨.slice (some ⟨g, 0, none⟩) n cap, ?_, ?_, ?_, by simp [World.setCell]; omega, ?_⟩
    · rw [Below.heap_setCell _ ⟨p5, 0, none⟩ _ p4 (by show p4 ≠ p5; omega), heap_setCell_same w1 p4 0 _ _ _ k4]; rfl
    · rw [heap_setCell_same _ p5 0 _ _ _ k5', List.map_append, List.map_cons, List.map_nil, endL_snoc]; rfl
    · rw [List.map_append, List.map_cons, List.map_nil]
      refine (RW.add (r := (k, q)) e2 e3 hq ho1 hblk).move (fun k hk _ => ?_)
      rw [Below.heap_setCell _ ⟨p5, 0, none⟩ _ k (by show k ≠ p5; omega), Below.heap_setCell _ ⟨p4, 0, none⟩ _ k (by show k ≠ p4; omega)]
    · have h1 := (below_alloc hb (.cells #[.int .i64 k, v] 50)).grown hg1 (below_alloc hb _).size (fun k e => Nat.le_trans q9 (own_base e2 k e))
      exact (h1.setCell (p := ⟨p4, 0, none⟩) q1 _).setCell (p := ⟨p5, 0, none⟩) q2 _
set_option maxHeartbeats 1000000 in
theorem walkf_calls (n : Nat) (A : Option Addr) (len c : Nat) (w : World) :
    CallsIn Fence.wide n Try.prog 45 #[.slice A len c] w fun e w' => e = .returned (.func (.func 69) #[] #[.pointer (some ⟨w.heap.size, 0, none⟩)]) ∧ w' = w.alloc (.cells #[.slice A len c] 45) := by
  refine callsIn_of_wp Try.func45 rfl trivial ?_ rfl
  simp only [Try.ntmps45, List.size_toArray, List.length_cons, List.length_nil, Nat.reduceAdd, Nat.reduceSub, Array.replicate_succ, Array.replicate_zero, List.push_toArray, List.append_toArray, List.nil_append, List.cons_append]
  gi_wp2
  go_ret
  exact ⟨rfl, rfl⟩
theorem readL_len (b : List Int) : ∀ at_, 7 * (readL at_ b).length ≤ b.length := by
  induction hm : b.length using Nat.strongRecOn generalizing b with
  | _ m ih =>
    intro at_
    by_cases h : isR b
    · have h4 := h.2.2.2.1
      rw [readL_yes h, List.length_cons]
      have := ih (b.drop (7 + lenR b)).length (by rw [List.length_drop]; omega) _ rfl (at_ + (7 + lenR b))
      rw [List.length_drop] at this
      omega
    · rw [readL_no h]; simp
def RetRead (w : World) (b : List Int) (e : Ending) (w' : World) : Prop := ∃ r, e = .returned (.tuple #[r, .int .i64 (endL (readL 0 b))]) ∧ RW w' w.heap.size r ((readL 0 b).map (·.2)) ∧ Below w.heap.size w w'
set_option maxRecDepth 100000 in
set_option maxHeartbeats 8000000 in
theorem wread_calls (w : World) (b : List Int) (A : Option Addr) (c : Nat) (hcap : b.length ≤ c) (h : Kd.C (Kd.int .u8) w A b.length b) (hb : Bytes b) (hlen : b.length ≤ 10000000000) :
    Calls Try.prog 20 #[.slice A b.length c] w (RetRead w b) := by
  have HR := Aside0.mk h
  have HX := Aside0.mk hb
  have HA : Aside0 (0 < b.length → ∀ ad, A = some ad → ad.block < w.heap.size) := ⟨fun h0 ad e => by
    obtain ⟨ad', e', hc⟩ := C_byte h (k := 0) h0
    rw [e] at e'
    injection e' with e'
    subst e'
    exact World.block_lt_of_cell? _ _ hc⟩
  clear h hb
  refine (callsIn_wide (n := 6)).1 ?_
  refine callsIn_of_wp_marks Try.func20 rfl trivial ?_ rfl
  simp only [Try.ntmps20, List.size_toArray, List.length_cons, List.length_nil, Nat.reduceAdd, Nat.reduceSub, Array.replicate_succ, Array.replicate_zero, List.push_toArray, List.append_toArray, List.nil_append, List.cons_append]
  refine wpIn_wide.2 ?_
  go_wp2_with (go_at_call 45; refine ((callsIn_wide (n := 3)).1 (walkf_calls _ A b.length c _)).mono ?_; rintro e w' ⟨rfl, rfl⟩)
  obtain ⟨W0, hW0⟩ : ∃ W0, W0 = ((w.alloc (.cells #[.slice none 0 0] 28)).alloc (.cells #[.int .i64 0] 3)).alloc (.cells #[.slice A b.length c] 45) := ⟨_, rfl⟩
  obtain ⟨p4, hp4⟩ : ∃ p4, p4 = w.heap.size := ⟨_, rfl⟩
  obtain ⟨p5, hp5⟩ : ∃ p5, p5 = w.heap.size + 1 := ⟨_, rfl⟩
  obtain ⟨Bs, hBs⟩ : ∃ Bs, Bs = w.heap.size + 1 + 1 := ⟨_, rfl⟩
  have hb1 : Below w.heap.size w W0 := by rw [hW0]; exact below_alloc (below_alloc (below_alloc (Below.refl _ _) _) _) _
  have hsz : W0.heap.size = w.heap.size + 3 := by rw [hW0]; simp
  have h4 : W0.heap[p4]? = some (.cells #[.slice none 0 0] 28 (0, 0)) := by rw [hW0, hp4]; exact blk_keep (blk_keep (heap_alloc_new w _) (below_alloc (Below.refl _ _) _)) (below_alloc (Below.refl _ _) _)
  have h5 : W0.heap[p5]? = some (.cells #[.int .i64 0] 3 (0, 0)) := by rw [hW0, hp5]; exact blk_keep (heap_alloc_new' (w.alloc _) _ _ (by simp)) (below_alloc (Below.refl _ _) _)
  have hB : W0.heap[Bs]? = some (.cells #[.slice A b.length c] 45 (0, 0)) := by rw [hW0, hBs]; exact heap_alloc_new' ((w.alloc _).alloc _) _ _ (by simp)
  rw [← hBs, ← hp5, ← hW0]
  have HP : Aside0 (p4 = w.heap.size ∧ p5 = w.heap.size + 1 ∧ Bs = w.heap.size + 2) := ⟨hp4, hp5, hBs⟩
  rw [show (Value.pointer (some ⟨w.heap.size, 0, none⟩)) = Value.pointer (some ⟨p4, 0, none⟩) by rw [hp4]]
  have HSI : Aside0 (SI w p4 p5 W0.heap.size [] W0) := ⟨⟨_, h4, h5, RW.nil _ _, Nat.le_refl _, hb1⟩⟩
  have HBS := Aside0.mk hB
  have HB1 := Aside0.mk hb1
  have HSZ := Aside0.mk hsz
  clear hW0 hp4 hp5 hBs hb1 hsz h4 h5 hB
  refine (wpIn_wide (n := 6)).1 ?_
  refine loop_box (n := 6) (gf := 69) (lb := #[.pointer (some ⟨Bs, 0, none⟩)]) rfl (enters_of Try.func69 (by kernel_rfl) rfl) (encs := encR) (Rx := Rx W0.heap.size) (Tx := Tx b) (Kp := Kw w.heap.size Bs) (S := fun xs => xs.map tell = readL 0 b) (Sp := fun pre => pre.map tell <+: readL 0 b) (fun _ => rfl)
    (fun W hW l J Jx W1 hW1 hJ _ hY h0 => walk1_in (6 - 1) (by decide) l Bs w.heap.size W0.heap.size A c b HX.out hcap (by omega) J Jx hJ hY W1 (Nat.le_trans hW.size hW1.size) (blk_keep (blk_keep HBS.out hW) hW1) (Kd.C_below HR.out (HB1.out.trans ((hW.trans (hW1.mono hW.size)).mono HB1.out.size))) HA.out h0)
    (SI w p4 p5 W0.heap.size) (fun _ _ _ => False) (fun s A B h hb => h.below hb) (fun c s A B h hb => h) (SI.turn HB1.out.size) (fun c s A l o o' h _ _ _ => h) (fun x => Rx.turn x) (fun A B C h h' => h.trans h') (fun A l o o' hl h hc => Kw.turn HB1.out.size (by have := HP.out; have := HSZ.out; omega) A l o o' hl h hc)
    HSI.out (Ax W0.heap.size A b.length c Bs p4 p5) (fun x a' => Ax.turn x a') ?assign ?body ?done ?stop
  case assign =>
    intro l pre x W K hI hx hK
    obtain ⟨at_, k, v, q⟩ := x
    have hx' : OB W W0.heap.size v q := hx
    obtain ⟨A', c', rfl, _⟩ := hx'.reads
    have hbs : W0.heap.size ≤ W.heap.size := by obtain ⟨_, _, _, _, h, _⟩ := hI; exact h
    have HI := Aside0.mk hI
    have HXX := Aside0.mk hx
    have HK := Aside0.mk hK
    have HBS2 := Aside0.mk hbs
    clear hI hx hx' hK hbs
    gi_wp2
    have hb1 : Below W.heap.size W (W.alloc (.cells #[.int .i64 k, .slice A' q.length c'] 50)) := below_alloc (Below.refl _ _) _
    exact HK.out _ _ ⟨W.heap.size, HBS2.out, heap_alloc_new W _, rfl⟩ (HI.out.below hb1) (HXX.out.below hb1) (KeepsOthers.alloc W _) (Kw.below hb1)
  case body =>
    rintro l pre x a' W ⟨vout, h4, h5, hrw, hbs, hbw⟩ hx hT ⟨r7, hr7, h7, rfl⟩
    obtain ⟨at_, k, v, q⟩ := x
    have hx' : OB W W0.heap.size v q := hx
    obtain ⟨A', c', rfl, _⟩ := hx'.reads
    obtain ⟨vA, vc, rfl⟩ := hrw.form
    obtain ⟨vs, e2, e3⟩ := hrw
    have hP := HP.out
    have hZ := HSZ.out
    have HPB : Aside0 (w.heap.size ≤ p4 ∧ w.heap.size ≤ p5 ∧ p5 ≠ p4 ∧ Bs ≠ p4 ∧ Bs ≠ p5 ∧ p4 < W0.heap.size ∧ p5 < W0.heap.size ∧ Bs < W0.heap.size ∧ w.heap.size ≤ W0.heap.size) := ⟨by omega⟩
    obtain ⟨c4, f4⟩ := one_at h4
    obtain ⟨c7, c7', f7, f7'⟩ := two_cells' h7
    have HNX : Aside0 (∀ (g n cap : Nat) (w1 : World), w1.ownsRow W0.heap.size 50 2 (.slice (some ⟨g, 0, none⟩) n cap) ((pre.map fun x => (tell x).2).length + 1) (vs ++ [.int .i64 k, .slice A' q.length c']) → (W.alloc (.cells #[.int .i64 k, .slice A' q.length c'] 50)).grownBy w1 (Value.slice vA (pre.map fun x => (tell x).2).length vc).ownBlock → _) := ⟨fun g n cap w1 ho1 hg1 => row_next (at_ := at_) HPB.out h4 h5 hbs hbw e2 e3 hx' ho1 hg1⟩
    have hm : (pre.map fun x => (tell x).2).length ≤ 10000000000 := by
      have h1 := hT.length_le
      have h2 := readL_len b 0
      simp only [List.length_map, List.length_append] at h1 ⊢
      omega
    have HE2 := Aside0.mk e2
    obtain ⟨i0, hi0, hz0, hz1, hz2⟩ := info_parts info_rec
    have HWS := Aside0.mk hbs
    obtain ⟨m, hmm⟩ : ∃ m, m = (pre.map fun x => (tell x).2).length := ⟨_, rfl⟩
    rw [← hmm] at c4 HE2 HNX hm
    have HM := Aside0.mk hm
    clear h4 h5 h7 hbs hbw hP hZ hx hx' e2 e3 hT hmm hm
    gi_wp2_with (gi_at_builtin; refine wpListIn_append_own _ rfl (.tmp 12) (.tmp 14) 28 rfl W0.heap.size 50 i0 (.agg #[.int .i64 0, .slice none 0 0]) 2 32 Try.underlying28 hi0 hz0 hz1 hz2 rfl (by decide) (.slice vA m vc) m vs rfl (HE2.out.alloc _) ⟨W.heap.size, 0, none⟩ 1 1 [.int .i64 k, .slice A' q.length c'] rfl rfl (cell_two_new _ _ _ _) (by simp [Value.oneCell']) (by have := HM.out; simp only [maxLen]; omega) (by have := HM.out; omega) (by have := HWS.out; simp; omega) ?_; intro v1 w1 ho1 hg1 hn1; obtain ⟨g', cap', rfl⟩ := ownsRow_succ ho1; have HN1 := Aside0.mk (HNX.out g' _ cap' w1 ho1 hg1); obtain ⟨c4', f4'⟩ := one_at HN1.out.1; obtain ⟨c5', f5'⟩ := one_at HN1.out.2.1; clear ho1 hg1 hn1)
    exact HN1.out.2.2
  case done =>
    rintro D xs W hD hS ⟨vout, h4, h5, hrw, hbs, hbw⟩ hK
    obtain ⟨vA, vc, rfl⟩ := hrw.form
    have hmap : (xs.map fun x => (tell x).2) = (readL 0 b).map (·.2) := by rw [← hS, List.map_map]; rfl
    rw [hS] at h5
    rw [hmap] at hrw h4
    obtain ⟨c4, f4⟩ := one_at h4
    obtain ⟨c5, f5⟩ := one_at h5
    have HRW := Aside0.mk hrw
    have HBW := Aside0.mk hbw
    have HK := Aside0.mk hK
    obtain ⟨m, hm⟩ : ∃ m, m = ((readL 0 b).map (·.2)).length := ⟨_, rfl⟩
    obtain ⟨en, hen⟩ : ∃ en, en = endL (readL 0 b) := ⟨_, rfl⟩
    have HEN := Aside0.mk hen
    rw [← hm] at HRW c4
    rw [← hen] at c5
    clear hS hrw h4 h5 hbs hbw hK hmap hm hen
    dsimp only
    go_wp2
    go_quiet (fail)
    obtain ⟨wE, hwE⟩ : ∃ wE, wE = W.drewN nq := ⟨_, rfl⟩
    have hbE : Below W.heap.size W wE := by rw [hwE]; exact pw_below_drewN (Below.refl _ _) _
    have HRE := Aside0.mk (HRW.out.below hbE)
    have HBE := Aside0.mk (HBW.out.trans (hbE.mono HBW.out.size))
    have HKE := Aside0.mk ((hbE.block D (Array.getElem?_eq_some_iff.1 HK.out).1).trans HK.out)
    have HDD : Aside0 (w.heap.size ≤ D) := ⟨by have := HSZ.out; omega⟩
    rw [← hwE]
    clear hwE hbE c4 f4 c5 f5
    go_wp2
    refine ⟨by simp, .inl ⟨_, _, rfl, run_takeDeferred HKE.out, ?_⟩⟩
    refine ⟨.tuple #[.slice vA m vc, .int .i64 en], by simp [results, Try.results20, go_sem], ?_⟩
    exact ⟨_, by rw [HEN.out], (HRE.out.turn HKE.out rfl).lower HB1.out.size, turn_below HBE.out (Nat.le_refl _) HDD.out _⟩
  case stop =>
    rintro D c' pre W hD hS h hK
    exact h.elim
end Go.Proofs.Ytobljkhidgbeoaa.Oct
/- the law's alive. -/
namespace Go.Proofs.Ytobljkhidgbeoaa.M
theorem readL_nil (at_ : Nat) : readL at_ [] = [] := readL_no (b := []) (fun h => by have h1 := h.1; exact absurd h1 (by decide)) at_
theorem readL_one {r : Rc} (hg : r.good) : readL 0 r.all = [(r.all.length, r)] := by
  have := readL_all hg [] 0
  rw [List.append_nil, readL_nil, Nat.zero_add] at this
  exact this
end Go.Proofs.Ytobljkhidgbeoaa.M
namespace Go.Proofs.Ytobljkhidgbeoaa.Oct
open Go.RowKit Go.Proofs.YtobljkhidgbeoaaW.PrintWords Go.Proofs.Ytobljkhidgbeoaa.M
set_option linter.unusedVariables false
set_option linter.unusedSimpArgs false
theorem open_nil (w : World) : Calls Try.prog 5 #[.pointer none] w fun e w' => e = .returned (.tuple #[.pointer none, .slice none 0 0, .int .i64 6]) ∧ w' = w := by
  go_enter Try.func5, Try.ntmps5
  go_wp2
  refine bodyPost_ret (v := .tuple #[.pointer none, .slice none 0 0, .int .i64 6]) (by simp [results, Try.results5, go_sem]) rfl ?_
  exact ⟨rfl, rfl⟩
abbrev r7 : Rc := (7, [1, 2])
theorem r7_good : r7.good := by decide
theorem r7_bytes : Bytes r7.2 := by intro y hy; simp at hy; rcases hy with rfl | rfl <;> (unfold Byte; omega)
end Go.Proofs.Ytobljkhidgbeoaa.Oct
