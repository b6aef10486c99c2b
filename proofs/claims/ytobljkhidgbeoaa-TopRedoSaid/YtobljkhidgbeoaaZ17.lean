
import Derived.Test.YtobljkhidgbeoaaZ16
/- The queue: rows of items, IndexFunc, DeleteFunc. (Printed by mk_quE.py.) -/
namespace Go.Proofs.Ytobljkhidgbeoaa.Oct
open Go.RowKit Go.Proofs.YtobljkhidgbeoaaW.PrintWords Go.Proofs.Ytobljkhidgbeoaa.M
set_option linter.unusedVariables false
set_option linter.unusedSimpArgs false
theorem run_clear_rows {P : Program} (w : World) (t e ty : TypeId) (z : Value) (ht : P.underlying t = some (.slice e)) (hv : ∀ w, (zeroValue e).run P w = .ok z w) (b o n c : Nat) (hn : 0 < n) (h1 : ∀ v ∈ (Builtin.zeroCells z.cells n).toList, v.oneCell' = true) (cur : Array Value) (tt : TypeId) (hh : w.heap[b]? = some (.cells cur tt (0, 0))) (hl : o + (Builtin.zeroCells z.cells n).size ≤ cur.size) :
    (Builtin.clear_ #[t] ty #[.slice (some ⟨b, o, none⟩) n c]).run P w = .ok (.tuple #[]) (w.setCells b o (Builtin.zeroCells z.cells n).toList) := by
  have hst := run_storeCells_cells (P := P) b o (Builtin.zeroCells z.cells n).toList 0 w (fun j hj => by
    rw [cell_of_row w b _ cur tt (0, 0) hh]
    rw [Array.length_toList] at hj
    rw [Array.getElem?_eq_getElem (by omega)]
    rfl) (fun j hj => by simp [World.frozen?, hh]) h1
  simp only [Nat.add_zero] at hst
  obtain ⟨m, rfl⟩ : ∃ m, n = m + 1 := ⟨n - 1, by omega⟩
  simp [Builtin.clear_, run_underlying ht, hv, hst]
theorem zeroCells_mem {z : Array Value} {n : Nat} (hz : 0 < z.size) (h : ∀ v ∈ z.toList, v.oneCell' = true) : ∀ v ∈ (Builtin.zeroCells z n).toList, v.oneCell' = true := fun v hv => by
  unfold Builtin.zeroCells at hv
  simp only [Array.toList_map, List.mem_map] at hv
  obtain ⟨i, _, rfl⟩ := hv
  have hi : i % z.size < z.size := Nat.mod_lt _ hz
  rw [getElem!_pos z (i % z.size) hi]
  exact h _ (by rw [Array.mem_toList_iff]; exact Array.getElem_mem hi)
theorem zeroCells_size (z : Array Value) (n : Nat) : (Builtin.zeroCells z n).size = n * z.size := by unfold Builtin.zeroCells; simp
theorem kp_setCells (b : Nat) : ∀ (vs : List Value) (o : Nat) (W : World) (F : Nat → Prop), F b → Kp W F (W.setCells b o vs)
  | [], _, W, F, _ => Kp.refl _ _
  | v :: r, o, W, F, h => by
    have h1 : Kp W F (W.setCell ⟨b, o, none⟩ v) := ⟨rfl, rfl, rfl, by simp [World.setCell], fun k _ hf => Below.heap_setCell _ _ _ _ (fun e => hf (by rw [e]; exact h))⟩
    exact h1.trans (kp_setCells b r (o + 1) _ F h) (fun k _ hk => hk)
theorem St.setCells {w W : World} {F : Nat → Prop} {b : Nat} {cs : Array Value} {t : TypeId} {l : List Part} (h : St w F W (pt b (.cells cs t (0, 0)) :: l)) (o : Nat) (vs : List Value) (hl : o + vs.length ≤ cs.size) : St w F (W.setCells b o vs) (pt b (.cells (cs.toList.take o ++ vs ++ cs.toList.drop (o + vs.length)).toArray t (0, 0)) :: l) :=
  h.turn (fun F1 hp => ⟨⟨.inl hp.1, heap_setCells b vs o W cs t hp.2 hl⟩, kp_setCells b vs o W F1 hp.1⟩)
/-- the place of the first one -/
def ixOf {α : Type} (p : α → Bool) (l : List α) : Int := match l.findIdx? p with
  | some i => (i : Int)
  | none => -1
theorem ix_take {α : Type} {p : α → Bool} {l : List α} {k : Nat} {z : α} (hk : k < l.length) (h : ∀ j, j < k → p (l.getD j z) = false) (hh : p (l.getD k z) = true) : l.findIdx? p = some k := by
  rw [List.findIdx?_eq_some_iff_getElem]
  refine ⟨hk, by simpa [List.getD_eq_getElem?_getD, List.getElem?_eq_getElem hk] using hh, fun j hj => ?_⟩
  have := h j hj
  simpa [List.getD_eq_getElem?_getD, List.getElem?_eq_getElem (Nat.lt_trans hj hk)] using this
theorem ix_no {α : Type} {p : α → Bool} {l : List α} {z : α} (h : ∀ j, j < l.length → p (l.getD j z) = false) : l.findIdx? p = none := by
  rw [List.findIdx?_eq_none_iff]
  intro x hx
  obtain ⟨j, hj, rfl⟩ := List.getElem_of_mem hx
  have := h j hj
  simpa [List.getD_eq_getElem?_getD, List.getElem?_eq_getElem hj] using this
theorem filter_take {α : Type} (p : α → Bool) (l : List α) (k : Nat) (hk : k < l.length) (z : α) : (l.take (k + 1)).filter p = (l.take k).filter p ++ if p (l.getD k z) then [l.getD k z] else [] := by
  rw [List.take_succ_eq_append_getElem hk, List.filter_append, List.getD_eq_getElem?_getD, List.getElem?_eq_getElem hk]
  simp only [Option.getD_some, List.filter_cons, List.filter_nil]
/-- a window of a block: its front, its rest -/
def Win (cur : Array Value) (off a n : Nat) (xs : List Value) : Prop := (cur.toList.drop (off + a)).take n = xs ∧ off + a + n ≤ cur.size
theorem Win.set_out {cur : Array Value} {off a n j : Nat} {xs : List Value} (v : Value) (h : Win cur off a n xs) (hj : j < off + a ∨ off + a + n ≤ j) : Win (cur.setIfInBounds j v) off a n xs := by
  refine ⟨?_, by simpa using h.2⟩
  rw [← h.1, Array.toList_setIfInBounds, List.drop_set]
  split
  · rfl
  · rw [List.take_set_of_le (by omega)]
theorem Win.at {cur : Array Value} {off a n j : Nat} {xs : List Value} (h : Win cur off a n xs) (hj : j < n) : cur[off + a + j]? = xs[j]? := by
  rw [← h.1, List.getElem?_take_of_lt hj, List.getElem?_drop, Array.getElem?_toList]
theorem Win.rest {cur : Array Value} {off a n s : Nat} {xs ys : List Value} (h : Win cur off a (s + n) (xs ++ ys)) (hs : xs.length = s) : Win cur off (a + s) n ys := by
  refine ⟨?_, by have := h.2; omega⟩
  have e := congrArg (fun l => l.drop s) h.1
  rw [List.drop_take, List.drop_drop, show s + n - s = n by omega, List.drop_append_of_le_length (by omega), (List.drop_eq_nil_of_le (by omega) : xs.drop s = []), List.nil_append] at e
  rw [← e, show off + (a + s) = off + a + s by omega]
theorem Win.ext {cur : Array Value} {off a : Nat} {xs : List Value} (v : Value) (h : Win cur off 0 a xs) (hl : off + a < cur.size) (hx : xs.length = a) : Win (cur.setIfInBounds (off + a) v) off 0 (a + 1) (xs ++ [v]) := by
  refine ⟨?_, by simp; omega⟩
  have h1 := h.1
  simp only [Nat.add_zero] at h1 ⊢
  rw [Array.toList_setIfInBounds, List.drop_set, if_neg (by omega), Nat.add_sub_cancel_left, List.take_set]
  have e : (cur.toList.drop off).take (a + 1) = xs ++ [cur[off + a]] := by
    have hla : a < (cur.toList.drop off).length := by simp; omega
    rw [List.take_succ_eq_append_getElem hla, h1]
    simp
  have e2 : a - xs.length = 0 := by omega
  rw [e, List.set_append, if_neg (by omega), e2]
  rfl
theorem first_filter {α : Type} {p : α → Bool} {l : List α} {i : Nat} (h : l.findIdx? p = some i) : (l.take (i + 1)).filter (fun x => !p x) = l.take i := by
  obtain ⟨hl, h1, h2⟩ := List.findIdx?_eq_some_iff_getElem.1 h
  rw [List.take_succ_eq_append_getElem hl, List.filter_append]
  have e1 : (l.take i).filter (fun x => !p x) = l.take i := List.filter_eq_self.2 (fun x hx => by
    obtain ⟨j, hj, rfl⟩ := List.getElem_of_mem hx
    rw [List.getElem_take]
    have := h2 j (by simp at hj; omega)
    simpa using this)
  rw [e1]
  simp [h1]
theorem qi_cells_get (l : List QI) (k : Nat) (hk : k < l.length) : (qiCells l)[k * 3]? = some (.int .i64 (l.getD k ⟨0, 0, 0⟩).num) ∧ (qiCells l)[k * 3 + 1]? = some (.int .u64 (l.getD k ⟨0, 0, 0⟩).val) ∧ (qiCells l)[k * 3 + 2]? = some (.int .i64 (l.getD k ⟨0, 0, 0⟩).work) := by
  induction l generalizing k with
  | nil => simp at hk
  | cons c l ih =>
    have e : qiCells (c :: l) = c.cs ++ qiCells l := rfl
    rw [e]
    cases k with
    | zero => exact ⟨rfl, rfl, rfl⟩
    | succ k =>
      have h := ih k (by simpa using hk)
      have e3 : c.cs.length = 3 := rfl
      refine ⟨?_, ?_, ?_⟩
      · rw [List.getElem?_append_right (by omega), e3, show (k + 1) * 3 - 3 = k * 3 by omega]; exact h.1
      · rw [List.getElem?_append_right (by omega), e3, show (k + 1) * 3 + 1 - 3 = k * 3 + 1 by omega]; exact h.2.1
      · rw [List.getElem?_append_right (by omega), e3, show (k + 1) * 3 + 2 - 3 = k * 3 + 2 by omega]; exact h.2.2
theorem qi_cells_len (l : List QI) : (qiCells l).length = l.length * 3 := by
  induction l with
  | nil => rfl
  | cons c l ih => show (c.cs ++ qiCells l).length = _; rw [List.length_append, ih]; simp [QI.cs]; omega
theorem qi_cells_app (l m : List QI) : qiCells (l ++ m) = qiCells l ++ qiCells m := by simp [qiCells]
theorem qp_cells_len (l : List (Nat × QW)) : (qPtrs l).length = l.length * 1 := by simp [qPtrs]
theorem qp_cells_app (l m : List (Nat × QW)) : qPtrs (l ++ m) = qPtrs l ++ qPtrs m := by simp [qPtrs]
theorem qc1_calls (w : World) (x : QI) (n : Int) (b0 : Nat) (hb : w.heap[b0]? = some (.cells #[.int .i64 n] 3 (0, 0))) :
    Calls Try.prog 75 #[.agg #[.int .i64 x.num, .int .u64 x.val, .int .i64 x.work], .pointer (some ⟨b0, 0, none⟩)] w fun e w' => e = .returned (.bool (x.work == n)) ∧ Below w.heap.size w w' := by
  have hb1 := (blk_keep hb (below_alloc (Below.refl w.heap.size w) (.cells #[.int .i64 x.num, .int .u64 x.val, .int .i64 x.work] 115)))
  obtain ⟨x0, _⟩ := heap1 hb1
  have HB := Aside0.mk (below_alloc (Below.refl w.heap.size w) (.cells #[.int .i64 x.num, .int .u64 x.val, .int .i64 x.work] 115))
  clear hb hb1
  obtain ⟨a, b, c⟩ := x
  go_enter Try.func75, Try.ntmps75
  go_wp2
  go_ret
  exact ⟨rfl, HB.out⟩
theorem qg1_calls (w : World) (q : Nat) (k n : Int) (lv p : Value) (b0 : Nat) (hb : w.heap[b0]? = some (.cells #[.int .i64 n] 3 (0, 0))) (hq : w.heap[q]? = some (.cells #[.int .i64 k, lv, p] 135 (0, 0))) :
    Calls Try.prog 83 #[.pointer (some ⟨q, 0, none⟩), .pointer (some ⟨b0, 0, none⟩)] w fun e w' => e = .returned (.bool (k == n)) ∧ Below w.heap.size w w' := by
  obtain ⟨x0, _⟩ := heap1 hb
  obtain ⟨y0, _⟩ := heap3 hq
  clear hb hq
  go_enter Try.func83, Try.ntmps83
  go_wp2_with fail
  go_quiet (fail)
  go_wp2_with fail
  go_ret
  exact ⟨rfl, below_drawN w nq⟩
set_option maxHeartbeats 2000000 in
theorem qi_index (w : World) (F : Nat → Prop) (l : List QI) (A : Option Addr) (cp : Nat) (n : Int) (b0 : Nat) (hll : l.length ≤ 1000000) (h : Sep (row 115 3 (.slice A l.length cp) l.length (qiCells l) :: [pt b0 (.cells #[.int .i64 n] 3 (0, 0))]) w F) :
    Calls Try.prog 81 #[.slice A l.length cp, .func (.func 75) #[] #[.pointer (some ⟨b0, 0, none⟩)]] w fun e w' => e = .returned (.int .i64 (ixOf (fun x => x.work == n) l)) ∧ Below w.heap.size w w' := by
  have HL := Aside0.mk h
  obtain ⟨m, hm⟩ : ∃ m, m = l.length := ⟨_, rfl⟩
  have HM := Aside0.mk hm
  rw [← hm]
  have hm2 : m ≤ 1000000 := by omega
  clear h hll hm
  go_enter Try.func81, Try.ntmps81
  go_wp2_with fail
  go_loopw [5, 8] (fun _ v8 wr => ∃ (k : Nat), k ≤ m ∧ v8 = .int .i64 k ∧ Aside0 (Below w.heap.size w wr) ∧ Aside0 (∀ j, j < k → (fun x : QI => x.work == n) (l.getD j (⟨0, 0, 0⟩ : QI)) = false)) (fun _ v _ => m - (intOf v).toNat)
  case atStart => exact ⟨0, by omega, rfl, ⟨Below.refl _ _⟩, ⟨fun j hj => by omega⟩⟩
  case round =>
    obtain ⟨k, hk, rfl, HB, HS⟩ := hrel
    by_cases hlt : k < m
    · have hlt' : (k : Int) < (m : Int) := by omega
      have hkl : k < l.length := by rw [← HM.out]; exact hlt
      have hrow := (HL.out.head).1.move (fun k e => HB.out.block k ((HL.out.head).1.block e).2)
      have hR : Sep [pt b0 (.cells #[.int .i64 n] 3 (0, 0))] wr F := HL.out.tail.mv HB.out.size (fun k hk hl => ⟨HB.out.block k hl, hk⟩)
      obtain ⟨g0, g1, g2⟩ := qi_cells_get l k hkl
      obtain ⟨ad, e, k0⟩ := OwnAt.cell hrow g0
      obtain ⟨ad1, e1, k1⟩ := OwnAt.cell hrow g1
      obtain ⟨ad2, e2, k2⟩ := OwnAt.cell hrow g2
      rw [e] at e1 e2
      injection e1 with e1
      injection e2 with e2
      subst e1 e2 e
      rw [← add_more] at k1 k2
      clear g0 g1 g2
      have hlk : l[k]? = some (l.getD k (⟨0, 0, 0⟩ : QI)) := by rw [List.getD_eq_getElem?_getD, List.getElem?_eq_getElem hkl]; rfl
      obtain ⟨x, hxe⟩ : ∃ x, x = l.getD k (⟨0, 0, 0⟩ : QI) := ⟨_, rfl⟩
      rw [← hxe] at k0 k1 k2 hlk
      have HC := Aside0.mk (qc1_calls wr x n b0 hR.heap.1)
      have HX := Aside0.mk hxe
      clear hxe hrow hR hlk
      go_wp2_with fail
      refine HC.out.mono ?_
      rintro e w1 ⟨rfl, hb1⟩
      have HB1 := Aside0.mk (HB.out.trans (hb1.mono HB.out.size))
      clear hb1
      cases hd : (x.work == n) with
      | true =>
        have HE : Aside0 (ixOf (fun x => x.work == n) l = (k : Int)) := ⟨by unfold ixOf; rw [ix_take hkl HS.out (by rw [← HX.out]; exact hd)]⟩
        go_wp2_with fail
        go_ret
        rw [HE.out]
        exact ⟨rfl, HB1.out⟩
      | false =>
        have HS2 : Aside0 (∀ j, j < k + 1 → (fun x : QI => x.work == n) (l.getD j (⟨0, 0, 0⟩ : QI)) = false) := ⟨fun j hj => by
          by_cases hjk : j = k
          · rw [hjk, ← HX.out]; exact hd
          · exact HS.out j (by omega)⟩
        go_wp2_with fail
        exact ⟨⟨k + 1, by omega, by go_num, HB1, HS2⟩, by simp [intOf]; omega⟩
    · obtain rfl : k = m := by omega
      have HE : Aside0 (ixOf (fun x => x.work == n) l = -1) := ⟨by unfold ixOf; rw [ix_no (by rw [← HM.out]; exact HS.out)]⟩
      go_wp2_with fail
      go_ret
      rw [HE.out]
      exact ⟨rfl, HB.out⟩
set_option maxRecDepth 100000 in
set_option maxHeartbeats 4000000 in
theorem qi_delete (w : World) (F : Nat → Prop) (l : List QI) (A : Option Addr) (cp : Nat) (n : Int) (b0 : Nat) (hll : l.length ≤ 1000000) (h : Sep (row 115 3 (.slice A l.length cp) l.length (qiCells l) :: [pt b0 (.cells #[.int .i64 n] 3 (0, 0))]) w F) :
    Calls Try.prog 74 #[.slice A l.length cp, .func (.func 75) #[] #[.pointer (some ⟨b0, 0, none⟩)]] w (Ret w F (fun e l' => ∃ v, e = .returned v ∧ l' = row 115 3 v (l.filter fun x => !(x.work == n)).length (qiCells (l.filter fun x => !(x.work == n))) :: [pt b0 (.cells #[.int .i64 n] 3 (0, 0))])) := by
  have HIX := Aside0.mk (qi_index w F l A cp n b0 hll h)
  have HST0 := Aside0.mk (St.start h)
  cases hfi : l.findIdx? (fun x => x.work == n) with
  | none =>
    have hix : ixOf (fun x : QI => x.work == n) l = -1 := by unfold ixOf; rw [hfi]
    have hall : (l.filter fun x => !(x.work == n)) = l := List.filter_eq_self.2 (fun x hx => by
      rw [List.findIdx?_eq_none_iff] at hfi
      have := hfi x hx
      rw [this]; rfl)
    rw [hix] at HIX
    have HALL := Aside0.mk hall
    obtain ⟨m, hm⟩ : ∃ m, m = l.length := ⟨_, rfl⟩
    rw [← hm] at HIX HST0 ⊢
    have HM := Aside0.mk hm
    clear h hfi hix hall hm hll
    go_enter Try.func74, Try.ntmps74
    go_wp2_with fail
    refine HIX.out.mono ?_
    rintro e W1 ⟨rfl, hb⟩
    have HST1 := Aside0.mk (HST0.out.below hb)
    clear hb
    go_wp2_with fail
    go_ret
    refine HST1.out.ret ⟨_, rfl, ?_⟩
    rw [HALL.out, ← HM.out]
    rfl
  | some i0 =>
    have hix : ixOf (fun x : QI => x.work == n) l = (i0 : Int) := by unfold ixOf; rw [hfi]
    have hi0 : i0 < l.length := (List.findIdx?_eq_some_iff_getElem.1 hfi).1
    rcases h.row_open with ⟨e1, e2, _⟩ | ⟨g, off, cap, cur, e1, h1, h2, h3, h4, h5, hst⟩
    · omega
    injection e1 with e1 _ e2
    subst e1 e2
    rw [hix] at HIX
    have HFIRST := Aside0.mk (first_filter hfi)
    obtain ⟨m, hm⟩ : ∃ m, m = l.length := ⟨_, rfl⟩
    have HM := Aside0.mk hm
    have hW0 : Win cur off 0 (m * 3) (qiCells l) := ⟨by rw [Nat.add_zero, hm]; exact h4, by rw [hm, Nat.add_zero]; have := Nat.mul_le_mul_right 3 h1; omega⟩
    have hWI : Win cur off 0 (i0 * 3) (qiCells (l.take i0)) := by
      have e : qiCells l = qiCells (l.take i0) ++ qiCells (l.drop i0) := by rw [← qi_cells_app, List.take_append_drop]
      have h6 := hW0.1
      rw [e] at h6
      refine ⟨?_, by have := hW0.2; have := Nat.mul_le_mul_right 3 (Nat.le_of_lt hi0); rw [hm] at *; omega⟩
      have h7 := congrArg (fun x => x.take (i0 * 3)) h6
      simp only [List.take_take] at h7
      rw [Nat.min_eq_left (by rw [hm]; exact Nat.mul_le_mul_right _ (Nat.le_of_lt hi0)), List.take_append_of_le_length (by rw [qi_cells_len, List.length_take, Nat.min_eq_left (Nat.le_of_lt hi0)]; exact Nat.le_refl _), (List.take_of_length_le (by rw [qi_cells_len, List.length_take, Nat.min_eq_left (Nat.le_of_lt hi0)]; exact Nat.le_refl _) : (qiCells (l.take i0)).take (i0 * 3) = qiCells (l.take i0))] at h7
      exact h7
    have hWR : Win cur off ((i0 + 1) * 3) ((m - (i0 + 1)) * 3) (qiCells (l.drop (i0 + 1))) := by
      have e : qiCells l = qiCells (l.take (i0 + 1)) ++ qiCells (l.drop (i0 + 1)) := by rw [← qi_cells_app, List.take_append_drop]
      have e2 : m * 3 = (i0 + 1) * 3 + (m - (i0 + 1)) * 3 := by rw [← Nat.add_mul]; congr 1; omega
      rw [e, e2] at hW0
      have := Win.rest hW0 (by rw [qi_cells_len, List.length_take, Nat.min_eq_left (by omega)])
      rwa [Nat.zero_add] at this
    have HSTG : Aside0 (St w F w (pt g (.cells cur 115 (0, 0)) :: [pt b0 (.cells #[.int .i64 n] 3 (0, 0))])) := ⟨St.start hst⟩
    have HWS := Aside0.mk (And.intro hWI (And.intro hWR h3))
    have HCAP := Aside0.mk (And.intro h1 h2)
    have hm2 : m ≤ 1000000 := by omega
    rw [← hm] at HIX ⊢
    have hi0' : i0 < m := by omega
    have hm1 : ((i0 : Int) == -1) = false := by rw [beq_eq_false_iff_ne]; omega
    have hmc : m ≤ cp := by omega
    clear h hfi hix hi0 h1 h2 h3 h4 h5 hst hW0 hWI hWR HST0 hm hll
    go_enter Try.func74, Try.ntmps74
    go_wp2_with fail
    refine HIX.out.mono ?_
    rintro e W1 ⟨rfl, hb⟩
    have HST1 := Aside0.mk (HSTG.out.below hb)
    clear hb HIX HSTG
    go_wp2_with fail
    go_loopw [5, 6, 7] (fun v5 v6 _ wr => ∃ (i j : Nat) (cur' : Array Value), i < j ∧ j ≤ m ∧ v5 = .int .i64 i ∧ v6 = .int .i64 j ∧ Aside0 (St w F wr (pt g (.cells cur' 115 (0, 0)) :: [pt b0 (.cells #[.int .i64 n] 3 (0, 0))])) ∧ Aside0 (i = ((l.take j).filter fun x => !(x.work == n)).length ∧ Win cur' off 0 (i * 3) (qiCells ((l.take j).filter fun x => !(x.work == n))) ∧ Win cur' off (j * 3) ((m - j) * 3) (qiCells (l.drop j)) ∧ off + cp * 3 ≤ cur'.size)) (fun _ v _ _ => m - (intOf v).toNat)
    case atStart => exact ⟨i0, i0 + 1, cur, by omega, by omega, by go_num, by go_num, HST1, ⟨by rw [HFIRST.out, List.length_take]; have := HM.out; omega, by rw [HFIRST.out]; exact HWS.out.1, HWS.out.2.1, HWS.out.2.2⟩⟩
    case round =>
      obtain ⟨i, j, cur', hij, hj, rfl, rfl, HST, HW⟩ := hrel
      have him : i < m := by omega
      by_cases hlt : j < m
      · have hlt' : (j : Int) < (m : Int) := by omega
        have hjl : j < l.length := by rw [← HM.out]; exact hlt
        obtain ⟨x, hx⟩ : ∃ x, x = l.getD j (⟨0, 0, 0⟩ : QI) := ⟨_, rfl⟩
        have hxl : l[j]? = some x := by rw [hx, List.getD_eq_getElem?_getD, List.getElem?_eq_getElem hjl]; rfl
        have hdr : l.drop j = x :: l.drop (j + 1) := by
          rw [List.drop_eq_getElem_cons hjl]
          congr 1
          rw [List.getElem?_eq_getElem hjl] at hxl
          injection hxl
        have hW2 := HW.out.2.2.1
        rw [hdr] at hW2
        have hcs : qiCells (x :: l.drop (j + 1)) = x.cs ++ qiCells (l.drop (j + 1)) := rfl
        have hsz : (m - j) * 3 = 3 + (m - (j + 1)) * 3 := by omega
        rw [hcs, hsz] at hW2
        have HREST : Aside0 (Win cur' off ((j + 1) * 3) ((m - (j + 1)) * 3) (qiCells (l.drop (j + 1)))) := ⟨by
          have := Win.rest hW2 rfl
          rwa [show j * 3 + 3 = (j + 1) * 3 by omega] at this⟩
        have hcell : ∀ t u, t < 3 → (x.cs)[t]? = some u → wr.cell? ⟨g, off + j * 3 + t, none⟩ = some u ∧ wr.frozen? ⟨g, off + j * 3 + t, none⟩ = false := fun t u ht hu => by
          refine cell_in HST.out.heap ?_
          rw [Win.at hW2 (by omega), List.getElem?_append_left (by show t < 3; exact ht)]
          exact hu
        have hfil := filter_take (fun x : QI => !(x.work == n)) l j hjl (⟨0, 0, 0⟩ : QI)
        rw [← hx] at hfil
        have HFIL := Aside0.mk hfil
        have HWB := Aside0.mk hW2.2
        obtain ⟨k0, f0⟩ := hcell 0 _ (by decide) rfl
        obtain ⟨k1, f1⟩ := hcell 1 _ (by decide) rfl
        obtain ⟨k2, f2⟩ := hcell 2 _ (by decide) rfl
        rw [Nat.add_zero] at k0 f0
        have HSTL : Aside0 (St w F (wr.alloc (.cells #[.int .i64 x.num, .int .u64 x.val, .int .i64 x.work] 115)) [pt g (.cells cur' 115 (0, 0)), pt b0 (.cells #[.int .i64 n] 3 (0, 0)), pt wr.heap.size (.cells #[.int .i64 x.num, .int .u64 x.val, .int .i64 x.work] 115 (0, 0))]) := ⟨(HST.out.alloc _).pick [1, 2, 0] (by decide)⟩
        have HC := Aside0.mk (qc1_calls _ x n b0 (HSTL.out.pick [1] (by decide)).heap)
        clear f0 f1 f2
        clear hx hxl hdr hW2 hcs hsz hcell hfil
        go_wp2_with fail
        generalize wr.heap.size = b7 at HSTL ⊢
        generalize wr.alloc _ = W2 at HSTL HC ⊢
        obtain ⟨x0, x1, x2, _⟩ := heap3 (HSTL.out.pick [2] (by decide)).heap
        go_wp2_with fail
        refine HC.out.mono ?_
        rintro e w3 ⟨rfl, hb3⟩
        have HST3 := Aside0.mk (HSTL.out.below hb3)
        clear hb3
        cases hd : (x.work == n) with
        | true =>
          have HF2 : Aside0 ((l.take (j + 1)).filter (fun x => !(x.work == n)) = (l.take j).filter (fun x => !(x.work == n))) := ⟨by rw [HFIL.out, hd]; simp⟩
          go_wp2_with fail
          exact ⟨⟨i, j + 1, cur', by omega, by omega, by go_num, by go_num, ⟨HST3.out.pick [0, 1] (by decide)⟩, ⟨by rw [HF2.out]; exact HW.out.1, by rw [HF2.out]; exact HW.out.2.1, HREST.out, HW.out.2.2.2⟩⟩, by simp [intOf]; omega⟩
        | false =>
          have HF2 : Aside0 ((l.take (j + 1)).filter (fun x => !(x.work == n)) = (l.take j).filter (fun x => !(x.work == n)) ++ [x]) := ⟨by rw [HFIL.out, hd]; simp⟩
          have hib : off + i * 3 + 3 ≤ cur'.size := by have := HWB.out; have := Nat.mul_le_mul_right 3 (Nat.le_of_lt hij); omega
          have hij3 : off + i * 3 + 3 ≤ off + (j + 1) * 3 := by have := Nat.mul_le_mul_right 3 (show i + 1 ≤ j + 1 by omega); omega
          obtain ⟨x0, x1, x2, _⟩ := heap3 (HST3.out.pick [2] (by decide)).heap
          obtain ⟨u0, hu0⟩ : ∃ u, cur'[off + i * 3]? = some u := ⟨_, Array.getElem?_eq_getElem (by omega)⟩
          obtain ⟨u1, hu1⟩ : ∃ u, cur'[off + i * 3 + 1]? = some u := ⟨_, Array.getElem?_eq_getElem (by omega)⟩
          obtain ⟨u2, hu2⟩ : ∃ u, cur'[off + i * 3 + 2]? = some u := ⟨_, Array.getElem?_eq_getElem (by omega)⟩
          obtain ⟨p0, q0⟩ := cell_in HST3.out.heap hu0
          obtain ⟨p1, q1⟩ := cell_in HST3.out.heap hu1
          obtain ⟨p2, q2⟩ := cell_in HST3.out.heap hu2
          have HSTS := Aside0.mk ((((HST3.out.set (off + i * 3) (.int .i64 x.num)).set (off + i * 3 + 1) (.int .u64 x.val)).set (off + i * 3 + 2) (.int .i64 x.work)).pick [0, 1] (by decide))
          have HWN : Aside0 (i + 1 = ((l.take (j + 1)).filter fun x => !(x.work == n)).length ∧ Win (((cur'.setIfInBounds (off + i * 3) (.int .i64 x.num)).setIfInBounds (off + i * 3 + 1) (.int .u64 x.val)).setIfInBounds (off + i * 3 + 2) (.int .i64 x.work)) off 0 ((i + 1) * 3) (qiCells ((l.take (j + 1)).filter fun x => !(x.work == n))) ∧ Win (((cur'.setIfInBounds (off + i * 3) (.int .i64 x.num)).setIfInBounds (off + i * 3 + 1) (.int .u64 x.val)).setIfInBounds (off + i * 3 + 2) (.int .i64 x.work)) off ((j + 1) * 3) ((m - (j + 1)) * 3) (qiCells (l.drop (j + 1))) ∧ off + cp * 3 ≤ (((cur'.setIfInBounds (off + i * 3) (.int .i64 x.num)).setIfInBounds (off + i * 3 + 1) (.int .u64 x.val)).setIfInBounds (off + i * 3 + 2) (.int .i64 x.work)).size) := ⟨by
            refine ⟨by rw [HF2.out, List.length_append, ← HW.out.1]; rfl, ?_, ((HREST.out.set_out _ (by omega)).set_out _ (by omega)).set_out _ (by omega), by simpa using HW.out.2.2.2⟩
            rw [HF2.out, qi_cells_app]
            have e1 := Win.ext (.int .i64 x.num) HW.out.2.1 (by omega) (by rw [qi_cells_len, ← HW.out.1])
            have e2 := Win.ext (.int .u64 x.val) e1 (by simp; omega) (by rw [List.length_append, qi_cells_len, ← HW.out.1]; rfl)
            have e3 := Win.ext (.int .i64 x.work) e2 (by simp; omega) (by rw [List.length_append, List.length_append, qi_cells_len, ← HW.out.1]; rfl)
            have e4 : (i + 1) * 3 = i * 3 + 1 + 1 + 1 := by omega
            rw [e4]
            have e5 : qiCells ((l.take j).filter fun x => !(x.work == n)) ++ qiCells [x] = qiCells ((l.take j).filter fun x => !(x.work == n)) ++ [.int .i64 x.num] ++ [.int .u64 x.val] ++ [.int .i64 x.work] := by simp [qiCells, QI.cs]
            rw [e5]
            exact e3⟩
          clear hu0 hu1 hu2
          clear hib hij3
          go_wp2_with fail
          exact ⟨⟨i + 1, j + 1, _, by omega, by omega, by go_num, by go_num, ⟨HSTS.out⟩, HWN⟩, by simp [intOf]; omega⟩
      · obtain rfl : j = m := by omega
        have hall : l.take j = l := by rw [HM.out]; exact List.take_length
        rw [hall] at HW
        have hne : (cp = i) = False := by simp; omega
        have hcapb := HW.out.2.2.2
        have hzl : off + i * 3 + (Builtin.zeroCells (Value.agg #[.int .i64 0, .int .u64 0, .int .i64 0]).cells (j - i)).size ≤ cur'.size := by
          rw [zeroCells_size]
          have e : (Value.agg #[.int .i64 0, .int .u64 0, .int .i64 0] : Value).cells.size = 3 := rfl
          have := Nat.mul_le_mul_right 3 (show i + (j - i) ≤ cp by omega)
          rw [Nat.add_mul] at this
          rw [e]
          omega
        have hcl : ∀ ty, (Builtin.clear_ #[80] ty #[.slice (some ⟨g, off + i * 3, none⟩) (j - i) (cp - i)]).run Try.prog wr = .ok (.tuple #[]) (wr.setCells g (off + i * 3) (Builtin.zeroCells (Value.agg #[.int .i64 0, .int .u64 0, .int .i64 0]).cells (j - i)).toList) := fun ty =>
          run_clear_rows wr _ 115 ty (Value.agg #[.int .i64 0, .int .u64 0, .int .i64 0]) Try.underlying80 (fun w => by kernel_rfl) g _ _ _ (by omega) (zeroCells_mem (by decide) (by simp [Value.cells, Value.oneCell'])) cur' _ HST.out.heap hzl
        have HEND : Aside0 (St w F (wr.setCells g (off + i * 3) (Builtin.zeroCells (Value.agg #[.int .i64 0, .int .u64 0, .int .i64 0]).cells (j - i)).toList) (row 115 3 (.slice (some ⟨g, off, none⟩) i cp) i (qiCells (l.filter fun x => !(x.work == n))) :: [pt b0 (.cells #[.int .i64 n] 3 (0, 0))])) := ⟨by
          have h1 := HST.out.setCells (off + i * 3) (Builtin.zeroCells (Value.agg #[.int .i64 0, .int .u64 0, .int .i64 0]).cells (j - i)).toList (by rw [Array.length_toList]; exact hzl)
          refine ⟨Sep.row_shut h1.1 (by omega) HCAP.out.2 ?_ ?_ ?_, h1.2⟩
          · simp only [List.size_toArray, List.length_append, List.length_take, List.length_drop, Array.length_toList]
            omega
          · have h2 := HW.out.2.1.1
            rw [Nat.add_zero] at h2
            rw [← h2]
            simp only [List.toList_toArray]
            rw [List.append_assoc, List.drop_append_of_le_length (by simp; omega), List.take_append_of_le_length (by simp; omega), List.drop_take, List.take_take]
            congr 1
            omega
          · rw [qi_cells_len, HW.out.1]⟩
        have HLEN := Aside0.mk HW.out.1
        generalize wr.setCells g _ _ = W9 at HEND hcl
        clear hzl hcapb hall
        go_wp2_with fail
        go_ret
        refine HEND.out.ret ⟨_, rfl, ?_⟩
        rw [← HLEN.out]
        rfl
set_option maxHeartbeats 2000000 in
theorem qp_index (w : World) (F : Nat → Prop) (l : List (Nat × QW)) (A : Option Addr) (cp : Nat) (n : Int) (b0 : Nat) (hll : l.length ≤ 1000000) (h : Sep (row 131 1 (.slice A l.length cp) l.length (qPtrs l) :: [pt b0 (.cells #[.int .i64 n] 3 (0, 0)), qObjs l]) w F) :
    Calls Try.prog 86 #[.slice A l.length cp, .func (.func 83) #[] #[.pointer (some ⟨b0, 0, none⟩)]] w fun e w' => e = .returned (.int .i64 (ixOf (fun x => x.2.n == n) l)) ∧ Below w.heap.size w w' := by
  have HL := Aside0.mk h
  obtain ⟨m, hm⟩ : ∃ m, m = l.length := ⟨_, rfl⟩
  have HM := Aside0.mk hm
  rw [← hm]
  have hm2 : m ≤ 1000000 := by omega
  clear h hll hm
  go_enter Try.func86, Try.ntmps86
  go_wp2_with fail
  go_loopw [5, 8] (fun _ v8 wr => ∃ (k : Nat), k ≤ m ∧ v8 = .int .i64 k ∧ Aside0 (Below w.heap.size w wr) ∧ Aside0 (∀ j, j < k → (fun x : (Nat × QW) => x.2.n == n) (l.getD j ((0, ⟨0, [], false⟩) : Nat × QW)) = false)) (fun _ v _ => m - (intOf v).toNat)
  case atStart => exact ⟨0, by omega, rfl, ⟨Below.refl _ _⟩, ⟨fun j hj => by omega⟩⟩
  case round =>
    obtain ⟨k, hk, rfl, HB, HS⟩ := hrel
    by_cases hlt : k < m
    · have hlt' : (k : Int) < (m : Int) := by omega
      have hkl : k < l.length := by rw [← HM.out]; exact hlt
      have hrow := (HL.out.head).1.move (fun k e => HB.out.block k ((HL.out.head).1.block e).2)
      have hR : Sep [pt b0 (.cells #[.int .i64 n] 3 (0, 0)), qObjs l] wr F := HL.out.tail.mv HB.out.size (fun k hk hl => ⟨HB.out.block k hl, hk⟩)
      have g0 : (qPtrs l)[k]? = some (evP (l.getD k ((0, ⟨0, [], false⟩) : Nat × QW)).1) := by unfold qPtrs; rw [List.getElem?_map, List.getElem?_eq_getElem hkl, List.getD_eq_getElem?_getD, List.getElem?_eq_getElem hkl]; rfl
      obtain ⟨ad, e, k0⟩ := OwnAt.cell hrow g0
      subst e
      simp only [evP] at k0
      clear g0
      have hlk : l[k]? = some (l.getD k ((0, ⟨0, [], false⟩) : Nat × QW)) := by rw [List.getD_eq_getElem?_getD, List.getElem?_eq_getElem hkl]; rfl
      obtain ⟨x, hxe⟩ : ∃ x, x = l.getD k ((0, ⟨0, [], false⟩) : Nat × QW) := ⟨_, rfl⟩
      rw [← hxe] at k0 hlk
      obtain ⟨lv, hq⟩ := qw_cell (hR.pick [1] (by decide)) hlk
      have HC := Aside0.mk (qg1_calls wr x.1 x.2.n n lv (.bool x.2.prep) b0 hR.heap.1 hq)
      clear hq
      have HX := Aside0.mk hxe
      clear hxe hrow hR hlk
      go_wp2_with fail
      refine HC.out.mono ?_
      rintro e w1 ⟨rfl, hb1⟩
      have HB1 := Aside0.mk (HB.out.trans (hb1.mono HB.out.size))
      clear hb1
      cases hd : (x.2.n == n) with
      | true =>
        have HE : Aside0 (ixOf (fun x => x.2.n == n) l = (k : Int)) := ⟨by unfold ixOf; rw [ix_take hkl HS.out (by rw [← HX.out]; exact hd)]⟩
        go_wp2_with fail
        go_ret
        rw [HE.out]
        exact ⟨rfl, HB1.out⟩
      | false =>
        have HS2 : Aside0 (∀ j, j < k + 1 → (fun x : (Nat × QW) => x.2.n == n) (l.getD j ((0, ⟨0, [], false⟩) : Nat × QW)) = false) := ⟨fun j hj => by
          by_cases hjk : j = k
          · rw [hjk, ← HX.out]; exact hd
          · exact HS.out j (by omega)⟩
        go_wp2_with fail
        exact ⟨⟨k + 1, by omega, by go_num, HB1, HS2⟩, by simp [intOf]; omega⟩
    · obtain rfl : k = m := by omega
      have HE : Aside0 (ixOf (fun x => x.2.n == n) l = -1) := ⟨by unfold ixOf; rw [ix_no (by rw [← HM.out]; exact HS.out)]⟩
      go_wp2_with fail
      go_ret
      rw [HE.out]
      exact ⟨rfl, HB.out⟩
set_option maxRecDepth 100000 in
set_option maxHeartbeats 4000000 in
theorem qp_delete (w : World) (F : Nat → Prop) (l : List (Nat × QW)) (A : Option Addr) (cp : Nat) (n : Int) (b0 : Nat) (hll : l.length ≤ 1000000) (h : Sep (row 131 1 (.slice A l.length cp) l.length (qPtrs l) :: [pt b0 (.cells #[.int .i64 n] 3 (0, 0)), qObjs l]) w F) :
    Calls Try.prog 82 #[.slice A l.length cp, .func (.func 83) #[] #[.pointer (some ⟨b0, 0, none⟩)]] w (Ret w F (fun e l' => ∃ v, e = .returned v ∧ l' = row 131 1 v (l.filter fun x => !(x.2.n == n)).length (qPtrs (l.filter fun x => !(x.2.n == n))) :: [pt b0 (.cells #[.int .i64 n] 3 (0, 0)), qObjs l])) := by
  have HIX := Aside0.mk (qp_index w F l A cp n b0 hll h)
  have HST0 := Aside0.mk (St.start h)
  cases hfi : l.findIdx? (fun x => x.2.n == n) with
  | none =>
    have hix : ixOf (fun x : (Nat × QW) => x.2.n == n) l = -1 := by unfold ixOf; rw [hfi]
    have hall : (l.filter fun x => !(x.2.n == n)) = l := List.filter_eq_self.2 (fun x hx => by
      rw [List.findIdx?_eq_none_iff] at hfi
      have := hfi x hx
      rw [this]; rfl)
    rw [hix] at HIX
    have HALL := Aside0.mk hall
    obtain ⟨m, hm⟩ : ∃ m, m = l.length := ⟨_, rfl⟩
    rw [← hm] at HIX HST0 ⊢
    have HM := Aside0.mk hm
    clear h hfi hix hall hm hll
    go_enter Try.func82, Try.ntmps82
    go_wp2_with fail
    refine HIX.out.mono ?_
    rintro e W1 ⟨rfl, hb⟩
    have HST1 := Aside0.mk (HST0.out.below hb)
    clear hb
    go_wp2_with fail
    go_ret
    refine HST1.out.ret ⟨_, rfl, ?_⟩
    rw [HALL.out, ← HM.out]
    rfl
  | some i0 =>
    have hix : ixOf (fun x : (Nat × QW) => x.2.n == n) l = (i0 : Int) := by unfold ixOf; rw [hfi]
    have hi0 : i0 < l.length := (List.findIdx?_eq_some_iff_getElem.1 hfi).1
    rcases h.row_open with ⟨e1, e2, _⟩ | ⟨g, off, cap, cur, e1, h1, h2, h3, h4, h5, hst⟩
    · omega
    injection e1 with e1 _ e2
    subst e1 e2
    rw [hix] at HIX
    have HFIRST := Aside0.mk (first_filter hfi)
    obtain ⟨m, hm⟩ : ∃ m, m = l.length := ⟨_, rfl⟩
    have HM := Aside0.mk hm
    have hW0 : Win cur off 0 (m * 1) (qPtrs l) := ⟨by rw [Nat.add_zero, hm]; exact h4, by rw [hm, Nat.add_zero]; have := Nat.mul_le_mul_right 1 h1; omega⟩
    have hWI : Win cur off 0 (i0 * 1) (qPtrs (l.take i0)) := by
      have e : qPtrs l = qPtrs (l.take i0) ++ qPtrs (l.drop i0) := by rw [← qp_cells_app, List.take_append_drop]
      have h6 := hW0.1
      rw [e] at h6
      refine ⟨?_, by have := hW0.2; have := Nat.mul_le_mul_right 1 (Nat.le_of_lt hi0); rw [hm] at *; omega⟩
      have h7 := congrArg (fun x => x.take (i0 * 1)) h6
      simp only [List.take_take] at h7
      rw [Nat.min_eq_left (by rw [hm]; exact Nat.mul_le_mul_right _ (Nat.le_of_lt hi0)), List.take_append_of_le_length (by rw [qp_cells_len, List.length_take, Nat.min_eq_left (Nat.le_of_lt hi0)]; exact Nat.le_refl _), (List.take_of_length_le (by rw [qp_cells_len, List.length_take, Nat.min_eq_left (Nat.le_of_lt hi0)]; exact Nat.le_refl _) : (qPtrs (l.take i0)).take (i0 * 1) = qPtrs (l.take i0))] at h7
      exact h7
    have hWR : Win cur off ((i0 + 1) * 1) ((m - (i0 + 1)) * 1) (qPtrs (l.drop (i0 + 1))) := by
      have e : qPtrs l = qPtrs (l.take (i0 + 1)) ++ qPtrs (l.drop (i0 + 1)) := by rw [← qp_cells_app, List.take_append_drop]
      have e2 : m * 1 = (i0 + 1) * 1 + (m - (i0 + 1)) * 1 := by rw [← Nat.add_mul]; congr 1; omega
      rw [e, e2] at hW0
      have := Win.rest hW0 (by rw [qp_cells_len, List.length_take, Nat.min_eq_left (by omega)])
      rwa [Nat.zero_add] at this
    have HSTG : Aside0 (St w F w (pt g (.cells cur 131 (0, 0)) :: [pt b0 (.cells #[.int .i64 n] 3 (0, 0)), qObjs l])) := ⟨St.start hst⟩
    have HWS := Aside0.mk (And.intro hWI (And.intro hWR h3))
    have HCAP := Aside0.mk (And.intro h1 h2)
    have hm2 : m ≤ 1000000 := by omega
    rw [← hm] at HIX ⊢
    have hi0' : i0 < m := by omega
    have hm1 : ((i0 : Int) == -1) = false := by rw [beq_eq_false_iff_ne]; omega
    have hmc : m ≤ cp := by omega
    clear h hfi hix hi0 h1 h2 h3 h4 h5 hst hW0 hWI hWR HST0 hm hll
    go_enter Try.func82, Try.ntmps82
    go_wp2_with fail
    refine HIX.out.mono ?_
    rintro e W1 ⟨rfl, hb⟩
    have HST1 := Aside0.mk (HSTG.out.below hb)
    clear hb HIX HSTG
    go_wp2_with fail
    go_loopw [5, 6, 7] (fun v5 v6 _ wr => ∃ (i j : Nat) (cur' : Array Value), i < j ∧ j ≤ m ∧ v5 = .int .i64 i ∧ v6 = .int .i64 j ∧ Aside0 (St w F wr (pt g (.cells cur' 131 (0, 0)) :: [pt b0 (.cells #[.int .i64 n] 3 (0, 0)), qObjs l])) ∧ Aside0 (i = ((l.take j).filter fun x => !(x.2.n == n)).length ∧ Win cur' off 0 (i * 1) (qPtrs ((l.take j).filter fun x => !(x.2.n == n))) ∧ Win cur' off (j * 1) ((m - j) * 1) (qPtrs (l.drop j)) ∧ off + cp * 1 ≤ cur'.size)) (fun _ v _ _ => m - (intOf v).toNat)
    case atStart => exact ⟨i0, i0 + 1, cur, by omega, by omega, by go_num, by go_num, HST1, ⟨by rw [HFIRST.out, List.length_take]; have := HM.out; omega, by rw [HFIRST.out]; exact HWS.out.1, HWS.out.2.1, HWS.out.2.2⟩⟩
    case round =>
      obtain ⟨i, j, cur', hij, hj, rfl, rfl, HST, HW⟩ := hrel
      have him : i < m := by omega
      by_cases hlt : j < m
      · have hlt' : (j : Int) < (m : Int) := by omega
        have hjl : j < l.length := by rw [← HM.out]; exact hlt
        obtain ⟨x, hx⟩ : ∃ x, x = l.getD j ((0, ⟨0, [], false⟩) : Nat × QW) := ⟨_, rfl⟩
        have hxl : l[j]? = some x := by rw [hx, List.getD_eq_getElem?_getD, List.getElem?_eq_getElem hjl]; rfl
        have hdr : l.drop j = x :: l.drop (j + 1) := by
          rw [List.drop_eq_getElem_cons hjl]
          congr 1
          rw [List.getElem?_eq_getElem hjl] at hxl
          injection hxl
        have hW2 := HW.out.2.2.1
        rw [hdr] at hW2
        have hcs : qPtrs (x :: l.drop (j + 1)) = [evP x.1] ++ qPtrs (l.drop (j + 1)) := rfl
        have hsz : (m - j) * 1 = 1 + (m - (j + 1)) * 1 := by omega
        rw [hcs, hsz] at hW2
        have HREST : Aside0 (Win cur' off ((j + 1) * 1) ((m - (j + 1)) * 1) (qPtrs (l.drop (j + 1)))) := ⟨by
          have := Win.rest hW2 rfl
          rwa [show j * 1 + 1 = (j + 1) * 1 by omega] at this⟩
        have hcell : ∀ t u, t < 1 → ([evP x.1])[t]? = some u → wr.cell? ⟨g, off + j * 1 + t, none⟩ = some u ∧ wr.frozen? ⟨g, off + j * 1 + t, none⟩ = false := fun t u ht hu => by
          refine cell_in HST.out.heap ?_
          rw [Win.at hW2 (by omega), List.getElem?_append_left (by show t < 1; exact ht)]
          exact hu
        have hfil := filter_take (fun x : (Nat × QW) => !(x.2.n == n)) l j hjl ((0, ⟨0, [], false⟩) : Nat × QW)
        rw [← hx] at hfil
        have HFIL := Aside0.mk hfil
        have HWB := Aside0.mk hW2.2
        obtain ⟨k0, f0⟩ := hcell 0 _ (by decide) rfl
        rw [Nat.add_zero] at k0 f0
        simp only [evP, Nat.mul_one] at k0 f0
        have HSTL : Aside0 (St w F wr [pt g (.cells cur' 131 (0, 0)), pt b0 (.cells #[.int .i64 n] 3 (0, 0)), qObjs l]) := ⟨HST.out⟩
        obtain ⟨lv, hq⟩ := qw_cell (HST.out.pick [2] (by decide)).1 hxl
        have HC := Aside0.mk (qg1_calls wr x.1 x.2.n n lv (.bool x.2.prep) b0 (HST.out.pick [1] (by decide)).heap hq)
        clear f0 hq
        clear hx hxl hdr hW2 hcs hsz hcell hfil
        go_wp2_with fail

        refine HC.out.mono ?_
        rintro e w3 ⟨rfl, hb3⟩
        have HST3 := Aside0.mk (HSTL.out.below hb3)
        clear hb3
        cases hd : (x.2.n == n) with
        | true =>
          have HF2 : Aside0 ((l.take (j + 1)).filter (fun x => !(x.2.n == n)) = (l.take j).filter (fun x => !(x.2.n == n))) := ⟨by rw [HFIL.out, hd]; simp⟩
          go_wp2_with fail
          exact ⟨⟨i, j + 1, cur', by omega, by omega, by go_num, by go_num, ⟨HST3.out⟩, ⟨by rw [HF2.out]; exact HW.out.1, by rw [HF2.out]; exact HW.out.2.1, HREST.out, HW.out.2.2.2⟩⟩, by simp [intOf]; omega⟩
        | false =>
          have HF2 : Aside0 ((l.take (j + 1)).filter (fun x => !(x.2.n == n)) = (l.take j).filter (fun x => !(x.2.n == n)) ++ [x]) := ⟨by rw [HFIL.out, hd]; simp⟩
          have hib : off + i * 1 + 1 ≤ cur'.size := by have := HWB.out; have := Nat.mul_le_mul_right 1 (Nat.le_of_lt hij); omega
          have hij3 : off + i * 1 + 1 ≤ off + (j + 1) * 1 := by have := Nat.mul_le_mul_right 1 (show i + 1 ≤ j + 1 by omega); omega
          obtain ⟨u0, hu0⟩ : ∃ u, cur'[off + i]? = some u := ⟨_, Array.getElem?_eq_getElem (by omega)⟩
          obtain ⟨p0, q0⟩ := cell_in HST3.out.heap hu0
          have HSTS := Aside0.mk (HST3.out.set (off + i) (evP x.1))
          have HWN : Aside0 (i + 1 = ((l.take (j + 1)).filter fun x => !(x.2.n == n)).length ∧ Win (cur'.setIfInBounds (off + i) (evP x.1)) off 0 ((i + 1) * 1) (qPtrs ((l.take (j + 1)).filter fun x => !(x.2.n == n))) ∧ Win (cur'.setIfInBounds (off + i) (evP x.1)) off ((j + 1) * 1) ((m - (j + 1)) * 1) (qPtrs (l.drop (j + 1))) ∧ off + cp * 1 ≤ (cur'.setIfInBounds (off + i) (evP x.1)).size) := ⟨by
            refine ⟨by rw [HF2.out, List.length_append, ← HW.out.1]; rfl, ?_, HREST.out.set_out _ (by omega), by simpa using HW.out.2.2.2⟩
            rw [HF2.out, qp_cells_app]
            have e1 := Win.ext (evP x.1) HW.out.2.1 (by omega) (by rw [qp_cells_len, ← HW.out.1])
            rw [Nat.mul_one] at e1 ⊢
            exact e1⟩
          clear hu0
          clear hib hij3
          go_wp2_with fail
          exact ⟨⟨i + 1, j + 1, _, by omega, by omega, by go_num, by go_num, ⟨HSTS.out⟩, HWN⟩, by simp [intOf]; omega⟩
      · obtain rfl : j = m := by omega
        have hall : l.take j = l := by rw [HM.out]; exact List.take_length
        rw [hall] at HW
        have hne : (cp = i) = False := by simp; omega
        have hcapb := HW.out.2.2.2
        have hzl : off + i * 1 + (Builtin.zeroCells (Value.pointer none).cells (j - i)).size ≤ cur'.size := by
          rw [zeroCells_size]
          have e : (Value.pointer none : Value).cells.size = 1 := rfl
          have := Nat.mul_le_mul_right 1 (show i + (j - i) ≤ cp by omega)
          rw [Nat.add_mul] at this
          rw [e]
          omega
        have hcl : ∀ ty, (Builtin.clear_ #[81] ty #[.slice (some ⟨g, off + i * 1, none⟩) (j - i) (cp - i)]).run Try.prog wr = .ok (.tuple #[]) (wr.setCells g (off + i * 1) (Builtin.zeroCells (Value.pointer none).cells (j - i)).toList) := fun ty =>
          run_clear_rows wr _ 131 ty (Value.pointer none) Try.underlying81 (fun w => by kernel_rfl) g _ _ _ (by omega) (zeroCells_mem (by decide) (by simp [Value.cells, Value.oneCell'])) cur' _ HST.out.heap hzl
        have HEND : Aside0 (St w F (wr.setCells g (off + i * 1) (Builtin.zeroCells (Value.pointer none).cells (j - i)).toList) (row 131 1 (.slice (some ⟨g, off, none⟩) i cp) i (qPtrs (l.filter fun x => !(x.2.n == n))) :: [pt b0 (.cells #[.int .i64 n] 3 (0, 0)), qObjs l])) := ⟨by
          have h1 := HST.out.setCells (off + i * 1) (Builtin.zeroCells (Value.pointer none).cells (j - i)).toList (by rw [Array.length_toList]; exact hzl)
          refine ⟨Sep.row_shut h1.1 (by omega) HCAP.out.2 ?_ ?_ ?_, h1.2⟩
          · simp only [List.size_toArray, List.length_append, List.length_take, List.length_drop, Array.length_toList]
            omega
          · have h2 := HW.out.2.1.1
            rw [Nat.add_zero] at h2
            rw [← h2]
            simp only [List.toList_toArray]
            rw [List.append_assoc, List.drop_append_of_le_length (by simp; omega), List.take_append_of_le_length (by simp; omega), List.drop_take, List.take_take]
            congr 1
            omega
          · rw [qp_cells_len, HW.out.1]⟩
        have HLEN := Aside0.mk HW.out.1
        simp only [Nat.mul_one] at hcl HEND
        generalize wr.setCells g _ _ = W9 at HEND hcl
        clear hzl hcapb hall
        go_wp2_with fail
        go_ret
        refine HEND.out.ret ⟨_, rfl, ?_⟩
        rw [← HLEN.out]
        rfl
end Go.Proofs.Ytobljkhidgbeoaa.Oct
