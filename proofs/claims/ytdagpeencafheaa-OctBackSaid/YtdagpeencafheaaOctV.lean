import Derived.Test.YtdagpeencafheaaOctU
import Derived.Maps.AppendAt
/- oct.Split. -/
namespace Go.Proofs.Ytdagpeencafheaa.Oct
open Go.RowKit Go.Proofs.YtdagpeencafheaaW.PrintWords Go.Proofs.Ytdagpeencafheaa.M
set_option linter.unusedVariables false
set_option linter.unusedSimpArgs false
attribute [local go_sem] Oper.semAt_some
def RetSplit (w : World) (b : List Int) (e : Ending) (w' : World) : Prop := ∃ r, e = .returned (.tuple #[r, .agg #[.int .i64 (splitE b).1, .int .i64 (splitE b).2]]) ∧ Rows_ w' w.heap.size r (splitP b) ∧ Below w.heap.size w w'
theorem split_err {b : List Int} {x y : Int} (h : splitM b = .error (x, y)) : splitP b = [] ∧ splitE b = (x, y) := by unfold splitP splitE; rw [h]; exact ⟨rfl, rfl⟩
theorem split_ok {b : List Int} {l : List (List Int)} (h : splitM b = .ok l) : splitP b = l ∧ splitE b = (0, 0) := by unfold splitP splitE; rw [h]; exact ⟨rfl, rfl⟩
theorem Rows_.move {W W' : World} {base : Nat} {v : Value} {ls : List (List Int)} (h : Rows_ W base v ls) (hm : ∀ k, base ≤ k → k < W.heap.size → W'.heap[k]? = W.heap[k]?) : Rows_ W' base v ls := by
  obtain ⟨vs, h1, h2, h3⟩ := h
  exact ⟨vs, h1, own_move h2 (fun k hk => hm k (own_base h2 k hk) (own_lt h2 k hk)), fun j u l hu hl => own_move (h3 j u l hu hl) (fun k hk => hm k (own_base (h3 j u l hu hl) k hk) (own_lt (h3 j u l hu hl) k hk))⟩
/-! ### what stands behind a turn of a block that is no cells -/
theorem turn_blk {A : World} {l k : Nat} {o o' : Obj} {cs : Array Value} {t : TypeId} {fr : Nat × Nat} (h : A.heap[k]? = some (.cells cs t fr)) (hl : A.heap[l]? = some o) (ho : o.isCells = false) : (A.putObj l o').heap[k]? = A.heap[k]? :=
  World.putObj_heap_other (fun e => by subst e; rw [h] at hl; injection hl with hl; rw [← hl] at ho; exact absurd ho (by simp [Obj.isCells]))
theorem turn_own {A : World} {base l n : Nat} {e : TypeId} {v : Value} {xs : List Value} {o o' : Obj} (h : A.ownsRow base e 1 v n xs) (hl : A.heap[l]? = some o) (ho : o.isCells = false) : (A.putObj l o').ownsRow base e 1 v n xs :=
  own_move h (fun k hk => by obtain ⟨cur, hc⟩ := own_type h hk; exact turn_blk hc hl ho)
theorem turn_rows {A : World} {base l : Nat} {v : Value} {ls : List (List Int)} {o o' : Obj} (h : Rows_ A base v ls) (hl : A.heap[l]? = some o) (ho : o.isCells = false) : Rows_ (A.putObj l o') base v ls := by
  obtain ⟨vs, h1, h2, h3⟩ := h
  exact ⟨vs, h1, turn_own h2 hl ho, fun j u m hu hm => turn_own (h3 j u m hu hm) hl ho⟩
theorem turn_below {n0 l : Nat} {w A : World} (h : Below n0 w A) (hn : n0 ≤ w.heap.size) (hl : n0 ≤ l) (o : Obj) : Below n0 w (A.putObj l o) :=
  h.grown (grownBy_putObj' A l o) (Nat.le_trans hn h.size) (fun k e => by injection e with e; omega)
abbrev zeroF : Obj := .cells #[.int .i64 0, .int .i64 0] 42 (0, 0)
abbrev whole (q : Nat × Value × List Int) : XW := (q.1, q.2.1, some q.2.2)
/-- between two rounds -/
def SI (w : World) (p3 p4 p5 base : Nat) (pre : List XW) (W : World) : Prop := ∃ (vout : Value) (ps : List (Nat × Value × List Int)), pre = ps.map whole ∧ ps.length ≤ 1000 ∧ W.heap[p3]? = some zeroF ∧ W.heap[p4]? = some (.cells #[vout] 38 (0, 0)) ∧ W.heap[p5]? = some zeroF ∧ Rows_ W base vout (ps.map (·.2.2)) ∧ base ≤ W.heap.size ∧ Below w.heap.size w W
/-- a round has left -/
def SX (w : World) (p3 p4 p5 base : Nat) (c : Code) (pre : List XW) (W : World) : Prop := c = .exit 0 ∧ ∃ (vout : Value) (ps : List (Nat × Value × List Int)) (x : XW) (f1 f2 : Int), pre = ps.map whole ++ [x] ∧ ps.length ≤ 1000 ∧ ((x.2.2 = none ∧ f1 = (x.1 : Int) ∧ f2 = 11) ∨ (x.2.2 ≠ none ∧ ps.length = 1000 ∧ f1 = 0 ∧ f2 = 2)) ∧ W.heap[p3]? = some zeroF ∧ W.heap[p4]? = some (.cells #[vout] 38 (0, 0)) ∧ W.heap[p5]? = some (.cells #[.int .i64 f1, .int .i64 f2] 42 (0, 0)) ∧ Below w.heap.size w W
theorem SI.below {w : World} {p3 p4 p5 base : Nat} {s : List XW} {A B : World} (h : SI w p3 p4 p5 base s A) (hb : Below A.heap.size A B) : SI w p3 p4 p5 base s B := by
  obtain ⟨vout, ps, h1, h2, h3, h4, h5, h6, h8, h7⟩ := h
  exact ⟨vout, ps, h1, h2, blk_keep h3 hb, blk_keep h4 hb, blk_keep h5 hb, h6.below hb, Nat.le_trans h8 hb.size, h7.trans (hb.mono h7.size)⟩
theorem SX.below {w : World} {p3 p4 p5 base : Nat} {c : Code} {s : List XW} {A B : World} (h : SX w p3 p4 p5 base c s A) (hb : Below A.heap.size A B) : SX w p3 p4 p5 base c s B := by
  obtain ⟨hc, vout, ps, x, f1, f2, h1, h2, hf, h3, h4, h5, h7⟩ := h
  exact ⟨hc, vout, ps, x, f1, f2, h1, h2, hf, blk_keep h3 hb, blk_keep h4 hb, blk_keep h5 hb, h7.trans (hb.mono h7.size)⟩
theorem SI.turn {w : World} {p3 p4 p5 base B : Nat} (hB : w.heap.size ≤ B) (s : List XW) : Turns B (SI w p3 p4 p5 base s) := by
  rintro A l o o' ⟨vout, ps, h1, h2, h3, h4, h5, h6, h8, h7⟩ hl ho hc
  exact ⟨vout, ps, h1, h2, (turn_blk h3 ho hc).trans h3, (turn_blk h4 ho hc).trans h4, (turn_blk h5 ho hc).trans h5, turn_rows h6 ho hc, by simpa using h8, turn_below h7 (Nat.le_refl _) (by omega) _⟩
theorem SX.turn {w : World} {p3 p4 p5 base B : Nat} (hB : w.heap.size ≤ B) (c : Code) (s : List XW) : Turns B (SX w p3 p4 p5 base c s) := by
  rintro A l o o' ⟨hcc, vout, ps, x, f1, f2, h1, h2, hf, h3, h4, h5, h7⟩ hl ho hc
  exact ⟨hcc, vout, ps, x, f1, f2, h1, h2, hf, (turn_blk h3 ho hc).trans h3, (turn_blk h4 ho hc).trans h4, (turn_blk h5 ho hc).trans h5, turn_below h7 (Nat.le_refl _) (by omega) _⟩
theorem Rx.turn {base B : Nat} (x : XW) : Turns B (Rx base x) := by
  rintro A l o o' h hl ho hc
  obtain ⟨at_, v, p⟩ := x
  cases p with
  | none => exact h
  | some p => exact ⟨turn_own h.1 ho hc, h.2⟩
theorem Kw.turn {n0 Bs B : Nat} (hn : n0 ≤ B) (hs : Bs < B) (A : World) (l : Nat) (o o' : Obj) (hl : B ≤ l) (h : A.heap[l]? = some o) (hc : o.isCells = false) : Kw n0 Bs A (A.putObj l o') :=
  ⟨by simp, fun k hk _ => World.putObj_heap_other (by rcases hk with h | h <;> omega)⟩
theorem one_at {W : World} {b : Nat} {v : Value} {t : TypeId} (h : W.heap[b]? = some (.cells #[v] t (0, 0))) : W.cell? ⟨b, 0, none⟩ = some v ∧ W.frozen? ⟨b, 0, none⟩ = false := by
  refine ⟨?_, ?_⟩ <;> simp [World.cell?, World.frozen?, h]
theorem fault_exit {w W : World} {p3 p4 p5 base : Nat} {vout x0 x1 : Value} {ps : List (Nat × Value × List Int)} {x : XW} {f1 f2 : Int} (hP : w.heap.size ≤ p5 ∧ p3 ≠ p5 ∧ p4 ≠ p5) (hpl : ps.length ≤ 1000) (hf : (x.2.2 = none ∧ f1 = (x.1 : Int) ∧ f2 = 11) ∨ (x.2.2 ≠ none ∧ ps.length = 1000 ∧ f1 = 0 ∧ f2 = 2)) (h3 : W.heap[p3]? = some zeroF) (h4 : W.heap[p4]? = some (.cells #[vout] 38 (0, 0))) (h5 : W.heap[p5]? = some (.cells #[x0, x1] 42 (0, 0))) (hb : Below w.heap.size w W) :
    KeepsOthers W ((W.setCell ⟨p5, 0, none⟩ (.int .i64 f1)).setCell ⟨p5, 1, none⟩ (.int .i64 f2)) ∧ SX w p3 p4 p5 base (.exit 0) (ps.map whole ++ [x]) ((W.setCell ⟨p5, 0, none⟩ (.int .i64 f1)).setCell ⟨p5, 1, none⟩ (.int .i64 f2)) := by
  refine ⟨(KeepsOthers.setCell _ _ _).trans (KeepsOthers.setCell _ _ _), rfl, vout, ps, x, f1, f2, rfl, hpl, hf, ?_, ?_, ?_, (hb.setCell (p := ⟨p5, 0, none⟩) hP.1 _).setCell (p := ⟨p5, 1, none⟩) hP.1 _⟩
  · rw [Below.heap_setCell _ ⟨p5, 1, none⟩ _ p3 hP.2.1, Below.heap_setCell _ ⟨p5, 0, none⟩ _ p3 hP.2.1]; exact h3
  · rw [Below.heap_setCell _ ⟨p5, 1, none⟩ _ p4 hP.2.2, Below.heap_setCell _ ⟨p5, 0, none⟩ _ p4 hP.2.2]; exact h4
  · have e0 := heap_setCell_same W p5 0 _ _ (.int .i64 f1) h5
    have e1 := heap_setCell_same _ p5 1 _ _ (.int .i64 f2) e0
    rw [e1]
    rfl
theorem row_next {w W w1 : World} {p3 p4 p5 base Bs at_ : Nat} {vout v v1 : Value} {ps : List (Nat × Value × List Int)} {vs : List Value} {q : List Int}
    (hP : w.heap.size ≤ p4 ∧ p3 ≠ p4 ∧ p5 ≠ p4 ∧ Bs ≠ p4 ∧ p3 < base ∧ p4 < base ∧ p5 < base ∧ Bs < base ∧ w.heap.size ≤ base) (hpl : ps.length < 1000) (h3 : W.heap[p3]? = some zeroF) (h4 : W.heap[p4]? = some (.cells #[vout] 38 (0, 0))) (h5 : W.heap[p5]? = some zeroF) (hbs : base ≤ W.heap.size) (hb : Below w.heap.size w W)
    (e1 : vs.length = (ps.map (·.2.2)).length) (e2 : W.ownsRow base 22 1 vout vs.length vs) (e3 : ∀ (j : Nat) (u : Value) (l : List Int), vs[j]? = some u → (ps.map (·.2.2))[j]? = some l → OB W base u l) (hq : OB W base v q)
    (ho1 : w1.ownsRow base 22 1 v1 (vs.length + 1) (vs ++ [v])) (hg1 : (W.alloc (.cells #[v] 22)).grownBy w1 vout.ownBlock) :
    w1.heap[p4]? = some (.cells #[vout] 38 (0, 0)) ∧ KeepsOthers W (w1.setCell ⟨p4, 0, none⟩ v1) ∧ Kw w.heap.size Bs W (w1.setCell ⟨p4, 0, none⟩ v1) ∧ SI w p3 p4 p5 base (ps.map whole ++ [(at_, v, some q)]) (w1.setCell ⟨p4, 0, none⟩ v1) := by
  have hsz : W.heap.size ≤ w1.heap.size := Nat.le_trans (by simp) hg1.size
  have hblk : ∀ k, k < W.heap.size → some k ≠ vout.ownBlock → w1.heap[k]? = W.heap[k]? := fun k hk hne => (hg1.block k (by simp; omega) hne).trans (Below.heap_alloc W _ k hk)
  have hlow : ∀ k, k < base → some k ≠ vout.ownBlock := fun k hk e => by have := own_base e2 k e.symm; omega
  have lt3 := (Array.getElem?_eq_some_iff.1 h3).1
  have lt4 := (Array.getElem?_eq_some_iff.1 h4).1
  have lt5 := (Array.getElem?_eq_some_iff.1 h5).1
  have k3 := (hblk p3 lt3 (hlow _ hP.2.2.2.2.1)).trans h3
  have k4 := (hblk p4 lt4 (hlow _ hP.2.2.2.2.2.1)).trans h4
  have k5 := (hblk p5 lt5 (hlow _ hP.2.2.2.2.2.2.1)).trans h5
  have hmove : ∀ {u' : Value} {l' : List Int}, OB W base u' l' → OB w1 base u' l' := fun {u' l'} ho => own_move ho (fun k hk => hblk k (own_lt ho k hk) (fun e => own_apart e2 ho e.symm hk))
  refine ⟨k4, ?_, ?_, ?_⟩
  · refine ((KeepsOthers.alloc W _).trans (KeepsOthers.of_grownBy hg1 (fun j o hj ho => ?_))).trans (KeepsOthers.setCell _ _ _)
    obtain ⟨cur, hc⟩ := own_type e2 hj
    have := blk_keep hc (below_alloc (Below.refl _ _) (.cells #[v] 22))
    rw [this] at ho
    injection ho with ho
    rw [← ho]
    rfl
  · refine ⟨by simp [World.setCell]; exact hsz, fun k hk hl => ?_⟩
    rw [Below.heap_setCell _ ⟨p4, 0, none⟩ _ k (by show k ≠ p4; rcases hk with h | h <;> omega)]
    exact hblk k hl (hlow _ (by rcases hk with h | h <;> omega))
  · refine ⟨v1, ps ++ [(at_, v, q)], by simp [whole], by simp; omega, ?_, ?_, ?_, ?_, by simp [World.setCell]; omega, ?_⟩
    · rw [Below.heap_setCell _ ⟨p4, 0, none⟩ _ p3 hP.2.1]; exact k3
    · rw [heap_setCell_same w1 p4 0 _ _ v1 k4]; rfl
    · rw [Below.heap_setCell _ ⟨p4, 0, none⟩ _ p5 hP.2.2.1]; exact k5
    · have hr : Rows_ w1 base v1 ((ps ++ [(at_, v, q)]).map (·.2.2)) := by
        rw [List.map_append]
        refine ⟨vs ++ [v], by simp [e1], by rw [List.length_append]; exact ho1, fun j u l hu hl => ?_⟩
        rcases Nat.lt_or_ge j vs.length with hj | hj
        · rw [List.getElem?_append_left hj] at hu
          rw [List.getElem?_append_left (by omega)] at hl
          exact hmove (e3 j u l hu hl)
        · rw [List.getElem?_append_right hj] at hu
          rw [List.getElem?_append_right (by omega)] at hl
          have hj0 : j - vs.length = 0 := by have := (List.getElem?_eq_some_iff.1 hu).1; simp at this; omega
          rw [hj0] at hu
          rw [show j - (ps.map (·.2.2)).length = 0 by omega] at hl
          obtain rfl : u = v := by simpa using hu.symm
          obtain rfl : l = q := by simpa using hl.symm
          exact hmove hq
      exact hr.move (fun k hk _ => Below.heap_setCell _ ⟨p4, 0, none⟩ _ k (by show k ≠ p4; omega))
    · have h1 := (below_alloc hb (.cells #[v] 22)).grown hg1 (below_alloc hb _).size (fun k e => Nat.le_trans hP.2.2.2.2.2.2.2.2 (own_base e2 k e))
      exact h1.setCell (p := ⟨p4, 0, none⟩) hP.1 _
set_option maxHeartbeats 1000000 in
theorem walkf_calls (n : Nat) (A : Option Addr) (len c : Nat) (w : World) :
    CallsIn Fence.wide n Try.prog 35 #[.slice A len c] w fun e w' => e = .returned (.func (.func 37) #[] #[.pointer (some ⟨w.heap.size, 0, none⟩)]) ∧ w' = w.alloc (.cells #[.slice A len c] 22) := by
  refine callsIn_of_wp Try.func35 rfl trivial ?_ rfl
  simp only [Try.ntmps35, List.size_toArray, List.length_cons, List.length_nil, Nat.reduceAdd, Nat.reduceSub, Array.replicate_succ, Array.replicate_zero, List.push_toArray, List.append_toArray, List.nil_append, List.cons_append]
  gi_wp2
  go_ret
  exact ⟨rfl, rfl⟩
set_option maxRecDepth 100000 in
set_option maxHeartbeats 8000000 in
theorem split_calls (w : World) (b : List Int) (A : Option Addr) (c : Nat) (hcap : b.length ≤ c) (h : Kd.C (Kd.int .u8) w A b.length b) (hb : Bytes b) (hlen : b.length ≤ 1000000) :
    Calls Try.prog 28 #[.slice A b.length c] w (RetSplit w b) := by
  have HR := Aside0.mk h
  have HX := Aside0.mk hb
  have HA : Aside0 (0 < b.length → ∀ ad, A = some ad → ad.block < w.heap.size) := ⟨fun h0 ad e => by
    obtain ⟨ad', e', hc⟩ := C_byte h (k := 0) h0
    rw [e] at e'
    injection e' with e'
    subst e'
    exact World.block_lt_of_cell? _ _ hc⟩
  clear h hb
  refine (callsIn_wide (n := 6)).1 ?_
  refine callsIn_of_wp_marks Try.func28 rfl trivial ?_ rfl
  simp only [Try.ntmps28, List.size_toArray, List.length_cons, List.length_nil, Nat.reduceAdd, Nat.reduceSub, Array.replicate_succ, Array.replicate_zero, List.push_toArray, List.append_toArray, List.nil_append, List.cons_append]
  refine wpIn_wide.2 ?_
  go_wp2
  go_step3
  go_wp2
  go_step3
  go_wp2_with (go_at_call 35; refine ((callsIn_wide (n := 3)).1 (walkf_calls _ A b.length c _)).mono ?_; rintro e w' ⟨rfl, rfl⟩)
  obtain ⟨W0, hW0⟩ : ∃ W0, W0 = (((w.alloc (.cells #[.int .i64 0, .int .i64 0] 42)).alloc (.cells #[.slice none 0 0] 38)).alloc (.cells #[.int .i64 0, .int .i64 0] 42)).alloc (.cells #[.slice A b.length c] 22) := ⟨_, rfl⟩
  obtain ⟨p3, hp3⟩ : ∃ p3, p3 = w.heap.size := ⟨_, rfl⟩
  obtain ⟨p4, hp4⟩ : ∃ p4, p4 = w.heap.size + 1 := ⟨_, rfl⟩
  obtain ⟨p5, hp5⟩ : ∃ p5, p5 = w.heap.size + 1 + 1 := ⟨_, rfl⟩
  obtain ⟨Bs, hBs⟩ : ∃ Bs, Bs = w.heap.size + 1 + 1 + 1 := ⟨_, rfl⟩
  have hb1 : Below w.heap.size w W0 := by rw [hW0]; exact below_alloc (below_alloc (below_alloc (below_alloc (Below.refl _ _) _) _) _) _
  have hsz : W0.heap.size = w.heap.size + 4 := by rw [hW0]; simp
  have h3 : W0.heap[p3]? = some zeroF := by rw [hW0, hp3]; exact blk_keep (blk_keep (blk_keep (heap_alloc_new w _) (below_alloc (Below.refl _ _) _)) (below_alloc (Below.refl _ _) _)) (below_alloc (Below.refl _ _) _)
  have h4 : W0.heap[p4]? = some (.cells #[.slice none 0 0] 38 (0, 0)) := by rw [hW0, hp4]; exact blk_keep (blk_keep (heap_alloc_new' (w.alloc _) _ _ (by simp)) (below_alloc (Below.refl _ _) _)) (below_alloc (Below.refl _ _) _)
  have h5 : W0.heap[p5]? = some zeroF := by rw [hW0, hp5]; exact blk_keep (heap_alloc_new' ((w.alloc _).alloc _) _ _ (by simp)) (below_alloc (Below.refl _ _) _)
  have hB : W0.heap[Bs]? = some (.cells #[.slice A b.length c] 22 (0, 0)) := by rw [hW0, hBs]; exact heap_alloc_new' (((w.alloc _).alloc _).alloc _) _ _ (by simp)
  rw [← hBs, ← hp5, ← hp4, ← hW0]
  have HP : Aside0 (p3 = w.heap.size ∧ p4 = w.heap.size + 1 ∧ p5 = w.heap.size + 2 ∧ Bs = w.heap.size + 3) := ⟨hp3, hp4, hp5, hBs⟩
  rw [show (Value.pointer (some ⟨w.heap.size, 0, none⟩)) = Value.pointer (some ⟨p3, 0, none⟩) by rw [hp3]]
  have HSI : Aside0 (SI w p3 p4 p5 W0.heap.size [] W0) := ⟨⟨_, [], rfl, by simp, h3, h4, h5, Rows_.nil _ _, Nat.le_refl _, hb1⟩⟩
  have HBS := Aside0.mk hB
  have HB1 := Aside0.mk hb1
  have HSZ := Aside0.mk hsz
  clear hW0 hp3 hp4 hp5 hBs hb1 hsz h3 h4 h5 hB
  refine (wpIn_wide (n := 6)).1 ?_
  refine loop_over (n := 6) (gf := 37) (lb := #[.pointer (some ⟨Bs, 0, none⟩)]) rfl (enters_of Try.func37 (by kernel_rfl) rfl) (encs := encX) (Rx := Rx W0.heap.size) (Kp := Kw w.heap.size Bs) (S := fun xs => xs.map tell = walkL 0 b) (Sp := fun pre => pre.map tell <+: walkL 0 b) (fun _ => rfl)
    (fun W hW l J Jx W1 hW1 hJ _ hY h0 => walk1_in (6 - 1) (by decide) l Bs w.heap.size W0.heap.size A c b HX.out hcap hlen J Jx hJ hY W1 (Nat.le_trans hW.size hW1.size) (blk_keep (blk_keep HBS.out hW) hW1) (Kd.C_below HR.out (HB1.out.trans ((hW.trans (hW1.mono hW.size)).mono HB1.out.size))) HA.out h0)
    (SI w p3 p4 p5 W0.heap.size) (SX w p3 p4 p5 W0.heap.size) (fun s A B h hb => h.below hb) (fun c s A B h hb => h.below hb) (SI.turn HB1.out.size) (SX.turn HB1.out.size) (fun x => Rx.turn x) (fun A B C h h' => h.trans h') (fun A l o o' hl h hc => Kw.turn HB1.out.size (by have := HP.out; have := HSZ.out; omega) A l o o' hl h hc)
    HSI.out (fun x => { tmps := #[.slice A b.length c, undef, .slice none 0 0, .pointer (some ⟨p3, 0, none⟩), .pointer (some ⟨p4, 0, none⟩), .pointer (some ⟨p5, 0, none⟩), .int .i64 (x.1 : Int), x.2.1, .agg #[.int .i64 0, .int .i64 0], .slice A b.length c, .func (.func 37) #[] #[.pointer (some ⟨Bs, 0, none⟩)], .int .i64 (x.1 : Int), x.2.1, undef, undef, undef, undef, undef, undef, undef, undef, undef, undef, undef, undef, undef, undef, undef, undef, undef, undef, undef, undef], defers := [] }) ?assign ?body ?done ?stop
  case assign =>
    intro l x W K hK
    gi_wp2
    exact hK
  case body =>
    rintro l pre x W ⟨vout, ps, rfl, hpl, h3, h4, h5, hrw, hbs, hbw⟩ hx
    have hP := HP.out
    have hZ := HSZ.out
    have HPA : Aside0 (w.heap.size ≤ p5 ∧ p3 ≠ p5 ∧ p4 ≠ p5) := ⟨by omega⟩
    have HPB : Aside0 (w.heap.size ≤ p4 ∧ p3 ≠ p4 ∧ p5 ≠ p4 ∧ Bs ≠ p4 ∧ p3 < W0.heap.size ∧ p4 < W0.heap.size ∧ p5 < W0.heap.size ∧ Bs < W0.heap.size ∧ w.heap.size ≤ W0.heap.size) := ⟨by omega⟩
    obtain ⟨c5, c5', f5, f5'⟩ := two_cells h5 (W' := W)
    obtain ⟨at_, v, o⟩ := x
    have HH3 := Aside0.mk h3
    have HH4 := Aside0.mk h4
    have HH5 := Aside0.mk h5
    have HBW := Aside0.mk hbw
    cases o with
    | none =>
      have hv : v = .slice none 0 0 := hx
      subst hv
      have HF := Aside0.mk (fault_exit (base := W0.heap.size) (x := (at_, .slice none 0 0, none)) (f1 := (at_ : Int)) (f2 := 11) HPA.out hpl (.inl ⟨rfl, rfl, rfl⟩) h3 h4 h5 hbw)
      have he : ∀ w : World, (binOp .eql 22 (.slice none 0 0) (.slice none 0 0)).run Try.prog w = .ok (.bool true) w := fun _ => rfl
      clear hx h3 h4 h5 hrw hbw hP hZ
      gi_wp2
      exact HF.out
    | some q =>
      obtain ⟨ho, hne⟩ : OB W W0.heap.size v q ∧ v ≠ .slice none 0 0 := hx
      obtain ⟨g, cap, rfl⟩ : ∃ g cap, v = .slice (some ⟨g, 0, none⟩) q.length cap := by
        rcases ho.2 with ⟨e, _⟩ | ⟨g, cap, cur, e, _⟩
        · exact absurd e hne
        · exact ⟨g, cap, e⟩
      obtain ⟨vs, e1, e2, e3⟩ := hrw
      obtain ⟨vA, vc, rfl⟩ : ∃ vA vc, vout = .slice vA vs.length vc := by
        rcases e2.2 with ⟨e, h0⟩ | ⟨g, cap, cur, e, _⟩
        · exact ⟨none, 0, by rw [e, h0]⟩
        · exact ⟨_, _, e⟩
      obtain ⟨c4, f4⟩ := one_at h4
      have he : ∀ w : World, (binOp .eql 22 (.slice (some ⟨g, 0, none⟩) q.length cap) (.slice none 0 0)).run Try.prog w = .ok (.bool false) w := fun _ => rfl
      have hm : vs.length = ps.length := by rw [e1, List.length_map]
      obtain ⟨m, hmm⟩ : ∃ m, m = vs.length := ⟨_, rfl⟩
      by_cases hk : ps.length = 1000
      · have HF := Aside0.mk (fault_exit (base := W0.heap.size) (x := (at_, .slice (some ⟨g, 0, none⟩) q.length cap, some q)) (f1 := 0) (f2 := 2) HPA.out hpl (.inr ⟨by simp, hk, rfl, rfl⟩) h3 h4 h5 hbw)
        rw [← hmm] at c4
        have hm1 : ((m : Int) == 1000) = true := by simp; omega
        clear h3 h4 h5 hbw hP hZ ho hne e1 e2 e3 hm hmm hk hpl
        gi_wp2
        exact HF.out
      · obtain ⟨i0, hi0, hz0, hz1, hz2⟩ := info_parts info_row
        have HNX : Aside0 (∀ (v1 : Value) (w1 : World), w1.ownsRow W0.heap.size 22 1 v1 (vs.length + 1) (vs ++ [.slice (some ⟨g, 0, none⟩) q.length cap]) → (W.alloc (.cells #[.slice (some ⟨g, 0, none⟩) q.length cap] 22)).grownBy w1 (Value.slice vA vs.length vc).ownBlock → w1.heap[p4]? = some (.cells #[.slice vA vs.length vc] 38 (0, 0)) ∧ KeepsOthers W (w1.setCell ⟨p4, 0, none⟩ v1) ∧ Kw w.heap.size Bs W (w1.setCell ⟨p4, 0, none⟩ v1) ∧ SI w p3 p4 p5 W0.heap.size (ps.map whole ++ [(at_, .slice (some ⟨g, 0, none⟩) q.length cap, some q)]) (w1.setCell ⟨p4, 0, none⟩ v1)) := ⟨fun v1 w1 ho1 hg1 => row_next HPB.out (by omega) h3 h4 h5 hbs hbw e1 e2 e3 ho ho1 hg1⟩
        have HE2 := Aside0.mk e2
        have hm1 : ((m : Int) == 1000) = false := beq_eq_false_iff_ne.2 (by omega)
        have HMM : Aside0 (m = vs.length ∧ vs.length ≤ 1000) := ⟨hmm, by omega⟩
        have HWS := Aside0.mk hbs
        rw [← hmm] at c4
        clear h3 h4 h5 hbw hbs hP hZ ho hne e1 e2 e3 hm hk hpl
        rw [← hmm] at HNX HE2
        clear hmm
        gi_wp2_with (gi_at_builtin; refine wpListIn_append_own _ rfl (.tmp 23) (.tmp 25) 38 rfl W0.heap.size 22 i0 (.slice none 0 0) 1 24 Try.underlying38 hi0 hz0 hz1 hz2 rfl (by decide) (.slice vA m vc) m vs rfl (HE2.out.alloc _) ⟨W.heap.size, 0, none⟩ 1 1 [.slice (some ⟨g, 0, none⟩) q.length cap] rfl rfl (cell_one_new _ _ _) (by simp [Value.oneCell']) (by have := HMM.out; simp only [maxLen]; omega) (by have := HMM.out; omega) (by have := HWS.out; simp; omega) ?_; intro v1 w1 ho1 hg1 hn1; have HN1 := Aside0.mk (HNX.out v1 w1 ho1 hg1); obtain ⟨c4', f4'⟩ := one_at HN1.out.1; obtain ⟨g', cap', rfl⟩ := ownsRow_succ ho1; clear ho1 hg1 hn1)
        exact HN1.out.2
  case done =>
    rintro D xs W hD hS ⟨vout, ps, rfl, hpl, h3, h4, h5, hrw, hbs, hbw⟩ hK
    have hP := HP.out
    have HE : Aside0 (splitP b = ps.map (·.2.2) ∧ splitE b = (0, 0)) := ⟨split_ok (by
      rw [split_walk, ← hS]
      have := run_whole (ps.map fun q => (q.1, q.2.2)) (by simpa using hpl)
      simpa [Function.comp_def, whole, tell] using this)⟩
    obtain ⟨vA, vc, rfl, _⟩ := hrw.reads
    obtain ⟨c5, c5', f5, f5'⟩ := two_cells h5 (W' := W)
    obtain ⟨c3, c3', f3, f3'⟩ := two_cells h3 (W' := W)
    have HCB : Aside0 (∀ W' : World, (∀ k, k ≠ p3 → k < W.heap.size → W'.heap[k]? = W.heap[k]?) → W'.cell? ⟨p4, 0, none⟩ = some (.slice vA (ps.map (·.2.2)).length vc) ∧ W'.cell? ⟨p5, 0, none⟩ = some (.int .i64 0) ∧ W'.cell? ⟨p5, 1, none⟩ = some (.int .i64 0)) := ⟨fun W' h => by
      have g4 := (h p4 (by omega) (Array.getElem?_eq_some_iff.1 h4).1).trans h4
      have g5 := (h p5 (by omega) (Array.getElem?_eq_some_iff.1 h5).1).trans h5
      obtain ⟨a, b, _⟩ := two_cells g5 (W' := W')
      exact ⟨(one_at g4).1, a, b⟩⟩
    have HH3 := Aside0.mk h3
    have HRW := Aside0.mk hrw
    have HBW := Aside0.mk hbw
    have HK := Aside0.mk hK
    have HDD : Aside0 (w.heap.size ≤ D ∧ w.heap.size ≤ p3 ∧ p3 < W0.heap.size) := ⟨by have := HSZ.out; omega⟩
    obtain ⟨m, hm⟩ : ∃ m, m = (ps.map (·.2.2)).length := ⟨_, rfl⟩
    rw [← hm] at HCB HRW
    clear hS hrw h3 h4 h5 hbs hbw hP hK hD hpl
    rw [← hm] at *
    clear hm
    dsimp only
    go_wp2
    go_region_held3 (fun W' => W'.cell? ⟨p4, 0, none⟩ = some (.slice vA m vc) ∧ W'.cell? ⟨p5, 0, none⟩ = some (.int .i64 0) ∧ W'.cell? ⟨p5, 1, none⟩ = some (.int .i64 0))
      (first | exact HCB.out _ (fun k h hl => rfl) | exact HCB.out _ (fun k h hl => (Below.heap_setCell _ ⟨p3, 1, none⟩ _ k h).trans (Below.heap_setCell _ ⟨p3, 0, none⟩ _ k h))) (fail)
    all_goals
      obtain ⟨wE, hwE⟩ : ∃ wE, wE = ((W.setCell ⟨p3, 0, none⟩ (.int .i64 0)).setCell ⟨p3, 1, none⟩ (.int .i64 0)).drew := ⟨_, rfl⟩
      have hblk : ∀ k, k ≠ p3 → wE.heap[k]? = W.heap[k]? := fun k h => by rw [hwE]; exact (Below.heap_setCell _ ⟨p3, 1, none⟩ _ k h).trans (Below.heap_setCell _ ⟨p3, 0, none⟩ _ k h)
      have hz : wE.heap[p3]? = some (.cells #[.int .i64 0, .int .i64 0] 42 (0, 0)) := by
        rw [hwE]
        have e0 := heap_setCell_same W p3 0 _ _ (.int .i64 0) HH3.out
        have e1 := heap_setCell_same _ p3 1 _ _ (.int .i64 0) e0
        exact e1.trans rfl
      have hbE : Below w.heap.size w wE := by rw [hwE]; exact below_drew ((HBW.out.setCell (p := ⟨p3, 0, none⟩) HDD.out.2.1 _).setCell (p := ⟨p3, 1, none⟩) HDD.out.2.1 _)
      have hKE : wE.heap[D]? = some (.deferred (some [])) := (hblk D (fun e => by have h := HK.out; rw [e, HH3.out] at h; cases h)).trans HK.out
      rw [← hwE]
      have hbF := turn_below hbE (Nat.le_refl _) HDD.out.1 (.deferred none)
      have hzF := (turn_blk (o' := .deferred none) hz hKE rfl).trans hz
      have hrE : Rows_ (wE.putObj D (.deferred none)) W0.heap.size (.slice vA m vc) (ps.map (·.2.2)) := turn_rows (HRW.out.move (fun k hk _ => hblk k (by have := HDD.out; omega))) hKE rfl
      have HKE := Aside0.mk hKE
      have HZF := Aside0.mk hzF
      have HBF := Aside0.mk hbF
      have HRE := Aside0.mk (hrE.lower HB1.out.size)
      clear c5 c5' f5 f5' c3 c3' f3 f3' hwE hblk hz hbE hKE hbF hzF hrE
      go_wp2
      refine ⟨by simp, .inl ⟨_, _, rfl, run_takeDeferred HKE.out, ?_⟩⟩
      obtain ⟨c3, c3', f3, f3'⟩ := two_cells HZF.out (W' := wE)
      refine ⟨.tuple #[.slice vA m vc, .agg #[.int .i64 0, .int .i64 0]], by simp [results, Try.results28, go_sem, c3, c3'], ?_⟩
      exact ⟨_, by rw [HE.out.2], by rw [HE.out.1]; exact HRE.out, HBF.out⟩
  case stop =>
    rintro D c' pre W hD hS ⟨rfl, vout, ps, x, f1, f2, rfl, hpl, hf, h3, h4, h5, hbw⟩ hK
    have hP := HP.out
    obtain ⟨t, ht⟩ := hS
    rw [List.map_append, List.append_assoc] at ht
    have hmap : (ps.map whole).map tell = (ps.map fun q => (q.1, q.2.2)).map fun q => (q.1, some q.2) := by simp [Function.comp_def, whole, tell]
    have HE : Aside0 (splitP b = [] ∧ splitE b = (f1, f2)) := ⟨by
      obtain ⟨at_, v, o⟩ := x
      rcases hf with ⟨ho, e1, e2⟩ | ⟨ho, hl, e1, e2⟩
      · have ho : o = none := ho
        subst ho
        rw [e1, e2]
        refine split_err ?_
        rw [split_walk, ← ht, hmap]
        exact run_none _ (by simpa using hpl) at_ t
      · obtain ⟨q, rfl⟩ : ∃ q, o = some q := by
          cases o with
          | none => exact absurd rfl ho
          | some q => exact ⟨q, rfl⟩
        rw [e1, e2]
        refine split_err ?_
        rw [split_walk, ← ht, hmap]
        exact run_many _ (by simpa using hl) at_ q t⟩
    have hf2 : (f2 != 0) = true := by rcases hf with ⟨_, _, e⟩ | ⟨_, _, _, e⟩ <;> rw [e] <;> rfl
    obtain ⟨c5, c5', f5, f5'⟩ := two_cells h5 (W' := W)
    obtain ⟨c3, c3', f3, f3'⟩ := two_cells h3 (W' := W)
    have HCB : Aside0 (∀ W' : World, (∀ k, k ≠ p3 → k < W.heap.size → W'.heap[k]? = W.heap[k]?) → W'.cell? ⟨p5, 0, none⟩ = some (.int .i64 f1) ∧ W'.cell? ⟨p5, 1, none⟩ = some (.int .i64 f2)) := ⟨fun W' h => by
      have g5 := (h p5 (by omega) (Array.getElem?_eq_some_iff.1 h5).1).trans h5
      obtain ⟨a, b, _⟩ := two_cells g5 (W' := W')
      exact ⟨a, b⟩⟩
    have HH3 := Aside0.mk h3
    have HBW := Aside0.mk hbw
    have HK := Aside0.mk hK
    have HDD : Aside0 (w.heap.size ≤ D ∧ w.heap.size ≤ p3 ∧ p3 < W0.heap.size) := ⟨by have := HSZ.out; omega⟩
    clear h3 h4 h5 hbw hP hK hD hpl hf hmap ht
    refine (wpIn_wide (n := 6)).2 ?_
    dsimp only
    go_wp2
    go_region_held3 (fun W' => W'.cell? ⟨p5, 0, none⟩ = some (.int .i64 f1) ∧ W'.cell? ⟨p5, 1, none⟩ = some (.int .i64 f2))
      (first | exact HCB.out _ (fun k h hl => rfl) | exact HCB.out _ (fun k h hl => (Below.heap_setCell _ ⟨p3, 1, none⟩ _ k h).trans (Below.heap_setCell _ ⟨p3, 0, none⟩ _ k h))) (fail)
    all_goals
      obtain ⟨wE, hwE⟩ : ∃ wE, wE = ((W.setCell ⟨p3, 0, none⟩ (.int .i64 f1)).setCell ⟨p3, 1, none⟩ (.int .i64 f2)).drew := ⟨_, rfl⟩
      have hblk : ∀ k, k ≠ p3 → wE.heap[k]? = W.heap[k]? := fun k h => by rw [hwE]; exact (Below.heap_setCell _ ⟨p3, 1, none⟩ _ k h).trans (Below.heap_setCell _ ⟨p3, 0, none⟩ _ k h)
      have hz : wE.heap[p3]? = some (.cells #[.int .i64 f1, .int .i64 f2] 42 (0, 0)) := by
        rw [hwE]
        have e0 := heap_setCell_same W p3 0 _ _ (.int .i64 f1) HH3.out
        have e1 := heap_setCell_same _ p3 1 _ _ (.int .i64 f2) e0
        exact e1.trans rfl
      have hbE : Below w.heap.size w wE := by rw [hwE]; exact below_drew ((HBW.out.setCell (p := ⟨p3, 0, none⟩) HDD.out.2.1 _).setCell (p := ⟨p3, 1, none⟩) HDD.out.2.1 _)
      have hKE : wE.heap[D]? = some (.deferred (some [])) := (hblk D (fun e => by have h := HK.out; rw [e, HH3.out] at h; cases h)).trans HK.out
      rw [← hwE]
      have hbF := turn_below hbE (Nat.le_refl _) HDD.out.1 (.deferred none)
      have hzF := (turn_blk (o' := .deferred none) hz hKE rfl).trans hz
      have HKE := Aside0.mk hKE
      have HZF := Aside0.mk hzF
      have HBF := Aside0.mk hbF
      clear c5 c5' f5 f5' c3 c3' f3 f3' hwE hblk hz hbE hKE hbF hzF
      go_wp2
      refine ⟨by simp, .inl ⟨_, _, rfl, run_takeDeferred HKE.out, ?_⟩⟩
      obtain ⟨c3, c3', f3, f3'⟩ := two_cells HZF.out (W' := wE)
      refine ⟨.tuple #[.slice none 0 0, .agg #[.int .i64 f1, .int .i64 f2]], by simp [results, Try.results28, go_sem, c3, c3'], ?_⟩
      exact ⟨_, by rw [HE.out.2], by rw [HE.out.1]; exact Rows_.nil _ _, HBF.out⟩
end Go.Proofs.Ytdagpeencafheaa.Oct
