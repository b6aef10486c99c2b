
import Derived.Test.YtobljkhidgbeoaaZ14
/- The queue: note. (Printed by mk_quC.py.) -/
namespace Go.Proofs.Ytobljkhidgbeoaa.Oct
open Go.RowKit Go.Proofs.YtobljkhidgbeoaaW.PrintWords Go.Proofs.Ytobljkhidgbeoaa.M
set_option linter.unusedVariables false
set_option linter.unusedSimpArgs false
def Raw.kvs (r : Raw) : List Int × List Bool × Value × Value × Value × Value := (r.vals, r.there, r.wm, r.lm, r.p0, r.p1)
def QuN (b : Nat) (r : Raw) (q : QU) (e : Ending) (l' : List Part) : Prop := ∃ r' M', e = .returned (.tuple #[]) ∧ QuIs r' M' q ∧ (r'.kvs = r.kvs ∧ r'.iv = r.iv) ∧ l' = quL b r' M' q.items
theorem qNote_some {l : List QW} {n : Int} {c : Ch} : ∀ {i : Nat} {x : QW}, qFind l n = some i → l[i]? = some x → qNote l n c = l.set i ⟨x.n, x.list ++ [c], x.prep⟩ := by
  induction l with
  | nil => intro i x h; simp [qFind] at h
  | cons w l ih =>
    intro i x h hx
    unfold qFind at h
    rw [List.findIdx?_cons] at h
    unfold qNote
    cases hw : w.n == n with
    | true =>
      rw [hw] at h
      obtain rfl : 0 = i := by simpa using h
      obtain rfl : w = x := by simpa using hx
      rfl
    | false =>
      rw [hw] at h
      simp only [Bool.false_eq_true, if_false] at h ⊢
      cases hj : l.findIdx? (fun x => x.n == n) with
      | none => rw [hj] at h; cases h
      | some j =>
        rw [hj] at h
        obtain rfl : j + 1 = i := by simpa using h
        rw [ih (i := j) (x := x) hj (by simpa using hx)]
        rfl
theorem qNote_none {l : List QW} {n : Int} {c : Ch} (h : qFind l n = none) : qNote l n c = l ++ [⟨n, [c], false⟩] := by
  induction l with
  | nil => rfl
  | cons w l ih =>
    unfold qFind at h
    rw [List.findIdx?_cons] at h
    unfold qNote
    cases hw : w.n == n with
    | true => rw [hw] at h; cases h
    | false =>
      rw [hw] at h
      simp only [Bool.false_eq_true, if_false] at h ⊢
      have : l.findIdx? (fun x => x.n == n) = none := by
        cases hj : l.findIdx? (fun x => x.n == n) with
        | none => rfl
        | some j => rw [hj] at h; cases h
      rw [ih this]
      rfl
theorem qPtrs_set {M : QM} {i : Nat} {m : Nat × QW} (x : QW) (h : M[i]? = some m) : qPtrs (M.set i (m.1, x)) = qPtrs M := by
  unfold qPtrs
  rw [List.map_set]
  apply List.ext_getElem?
  intro j
  rw [List.getElem?_set]
  by_cases hij : i = j
  · subst hij
    rw [if_pos rfl, List.getElem?_map, h, if_pos (by simpa using (List.getElem?_eq_some_iff.1 h).1)]
    rfl
  · rw [if_neg hij]
theorem wrow_set {v : Value} {M : QM} {i : Nat} {m : Nat × QW} (x : QW) (h : M[i]? = some m) : wrowP v (M.set i (m.1, x)) = wrowP v M := by
  unfold wrowP
  rw [qPtrs_set x h, List.length_set]
set_option maxRecDepth 100000 in
set_option maxHeartbeats 4000000 in
theorem qnote_old (w : World) (F : Nat → Prop) (b : Nat) (r : Raw) (M : QM) (q : QU) (n : Int) (c : Ch) (hq : QuIs r M q) (hs : q.small) (h : Sep (quL b r M q.items) w F) (i : Nat) (hf : qFind (M.map (·.2)) n = some i) :
    Calls Try.prog 67 #[.pointer (some ⟨b, 34, none⟩), .int .i64 n, .agg #[.int .i64 c.kind, .int .i64 c.key, .int .u64 c.val]] w (Ret w F (QuN b r (q.note n c))) := by
  have HQ := Aside0.mk hq
  have hM : M.length ≤ 1000 := by have := hs.works; rw [← hq.works] at this; simpa using this
  have HST0 : Aside0 (St w F (w.alloc (.cells #[.int .i64 c.kind, .int .i64 c.key, .int .u64 c.val] 94)) (quL b r M q.items ++ [pt w.heap.size c.box])) := ⟨((St.start h).alloc _).pick [1, 2, 3, 4, 0] (by decide)⟩
  have HF := Aside0.mk (qfind_calls _ (New w F) b r M q.items n hq.ok (HST0.out.1.pick [0, 1, 2, 3] (by decide)) hM)
  obtain ⟨m, hm, hv, hmn⟩ := fVal_some hf
  have hwi : q.works[i]? = some m.2 := by rw [← hq.works, List.getElem?_map, hm]; rfl
  have HN : Aside0 (q.note n c = { q with works := q.works.set i ⟨m.2.n, m.2.list ++ [c], m.2.prep⟩ }) := ⟨by unfold QU.note; rw [qNote_some (by rw [← hq.works]; exact hf) hwi]⟩
  have hll : m.2.list.length ≤ 1000 := hs.lists m.2 (List.mem_of_getElem? hwi)
  rw [hv] at HF
  have HMI := Aside0.mk hm
  obtain ⟨lv, hst⟩ := ((HST0.out.1.pick [3, 0, 1, 2, 4] (by decide)).q_take hm).qw_open
  obtain ⟨A, cp, rfl, _, _, _⟩ := chRow_form (hst.pick [1] (by decide)).one
  have HST1 : Aside0 (St w F (w.alloc (.cells #[.int .i64 c.kind, .int .i64 c.key, .int .u64 c.val] 94)) [pt m.1 (.cells #[.int .i64 m.2.n, .slice A m.2.list.length cp, .bool m.2.prep] 135 (0, 0)), row 94 3 (.slice A m.2.list.length cp) m.2.list.length (chCells m.2.list), pt w.heap.size c.box, qObjs (M.eraseIdx i), pt b r.obj, itemP r.iv q.items, wrowP r.wv M]) := ⟨hst.pick [0, 1, 6, 2, 3, 4, 5] (by decide), HST0.out.2⟩
  have HCLOSE : Aside0 (∀ W A4 c4, St w F W [pt m.1 (.cells #[.int .i64 m.2.n, .slice A4 (m.2.list.length + 1) c4, .bool m.2.prep] 135 (0, 0)), row 94 3 (.slice A4 (m.2.list.length + 1) c4) (m.2.list.length + 1) (chCells m.2.list ++ c.cs), qObjs (M.eraseIdx i), pt b r.obj, itemP r.iv q.items, wrowP r.wv M] → Ret w F (QuN b r (q.note n c)) (.returned (.tuple #[])) W) := ⟨fun W A4 c4 hst => by
    rw [HN.out]
    have e : row 94 3 (.slice A4 (m.2.list.length + 1) c4) (m.2.list.length + 1) (chCells m.2.list ++ c.cs) = chRow (.slice A4 (m.2.list.length + 1) c4) (m.2.list ++ [c]) := by
      unfold chRow
      rw [chCells_app, List.length_append]
      rfl
    rw [e] at hst
    have h2 := Sep.qw_shut hst.1
    have h3 : Sep (qObjs (M.set i (m.1, ⟨m.2.n, m.2.list ++ [c], m.2.prep⟩)) :: [pt b r.obj, itemP r.iv q.items, wrowP r.wv M]) W (New w F) := Sep.q_put (m := (m.1, ⟨m.2.n, m.2.list ++ [c], m.2.prep⟩)) h2 (List.getElem?_eq_some_iff.1 HMI.out).1
    have h4 : St w F W (qObjs (M.set i (m.1, ⟨m.2.n, m.2.list ++ [c], m.2.prep⟩)) :: [pt b r.obj, itemP r.iv q.items, wrowP r.wv M]) := ⟨h3, hst.2⟩
    refine (h4.pick [1, 2, 3, 0] (by decide)).ret ⟨r, M.set i (m.1, ⟨m.2.n, m.2.list ++ [c], m.2.prep⟩), rfl, ⟨HQ.out.ok, ?_, HQ.out.given⟩, ⟨rfl, rfl⟩, ?_⟩
    · rw [List.map_set, HQ.out.works]
    · unfold quL
      rw [wrow_set _ HMI.out]
      rfl⟩
  obtain ⟨qb, mw⟩ := m
  obtain ⟨mn, ml, mp⟩ := mw
  simp only at HCLOSE HST1 hll
  obtain ⟨len, hlen⟩ : ∃ len, len = ml.length := ⟨_, rfl⟩
  rw [← hlen] at HCLOSE HST1 hll
  have HLE : Aside0 (len ≤ 10000000) := ⟨by omega⟩
  simp only [evP] at HF
  clear h hq hs hf hm hv hmn hwi hM hst HST0 HN HMI hlen HQ
  go_enter Try.func67, Try.ntmps67
  go_wp2_with fail
  generalize w.heap.size = b5 at HST1 ⊢
  generalize w.alloc _ = W1 at HST1 HF ⊢
  refine HF.out.mono ?_
  rintro e W2 ⟨rfl, hw⟩
  have hw := hw.symm
  subst hw
  clear HF
  have HST4 : Aside0 (St w F W1 [pt qb (.cells #[.int .i64 mn, .slice A len cp, .bool mp] 135 (0, 0)), row 94 3 (.slice A len cp) len (chCells ml), pt b5 c.box, qObjs (M.eraseIdx i), pt b r.obj, itemP r.iv q.items, wrowP r.wv M]) := ⟨HST1.out⟩
  have HROW : Aside0 (∀ W, Below W1.heap.size W1 W → OwnAt W 0 94 3 (.slice A len cp) len (chCells ml)) := ⟨fun W hW => (HST4.out.below hW).1.tail.head.1⟩
  have HS4 := Aside0.mk (And.intro (heap3 HST4.out.heap) (heap3 (HST4.out.pick [2] (by decide)).heap))
  have hbA := below_alloc (Below.refl W1.heap.size W1) (.cells #[.int .i64 c.kind, .int .i64 c.key, .int .u64 c.val] 94)
  have HSA := Aside0.mk (And.intro (heap3 (HST4.out.below hbA).heap) (heap3 ((HST4.out.below hbA).pick [2] (by decide)).heap))
  obtain ⟨⟨_, q1, _, _, f1, _⟩, x0, x1, x2, _⟩ := HS4.out
  obtain ⟨⟨_, q1a, _, _, f1a, _⟩, x0a, x1a, x2a, _⟩ := HSA.out
  have HNEW : Aside0 (∀ u ∈ [Value.int .i64 c.kind, .int .i64 c.key, .int .u64 c.val], u.oneCell' = true) := ⟨by simp [Value.oneCell']⟩
  have HFIN : Aside0 (∀ Wm w4 v4, Below W1.heap.size W1 Wm → OwnAt w4 0 94 3 v4 (len + 1) (chCells ml ++ [.int .i64 c.kind, .int .i64 c.key, .int .u64 c.val]) → Wm.grownBy w4 (Value.slice A len cp).ownBlock → (v4.ownBlock = (Value.slice A len cp).ownBlock ∨ ∃ b, v4.ownBlock = some b ∧ Wm.heap.size ≤ b) →
      (w4.cell? ⟨qb, 1, none⟩ = some (.slice A len cp) ∧ w4.frozen? ⟨qb, 1, none⟩ = false) ∧ St w F (w4.setCell ⟨qb, 1, none⟩ v4) [pt qb (.cells #[.int .i64 mn, v4, .bool mp] 135 (0, 0)), row 94 3 v4 (len + 1) (chCells ml ++ c.cs), qObjs (M.eraseIdx i), pt b r.obj, itemP r.iv q.items, wrowP r.wv M]) := ⟨fun Wm w4 v4 hB ho hg hn => by
    have h1 : St w F Wm (row 94 3 (.slice A len cp) len (chCells ml) :: pt qb (.cells #[.int .i64 mn, .slice A len cp, .bool mp] 135 (0, 0)) :: [pt b5 c.box, qObjs (M.eraseIdx i), pt b r.obj, itemP r.iv q.items, wrowP r.wv M]) := (HST4.out.below hB).pick [1, 0, 2, 3, 4, 5, 6] (by decide)
    have h2 := h1.grown ho hg hn
    have h3 := h2.pick [1, 0, 2, 3, 4, 5, 6] (by decide)
    obtain ⟨_, c0, _, _, g0, _⟩ := heap3 h3.heap
    refine ⟨⟨c0, g0⟩, ?_⟩
    have h4 := (h3.set 1 v4).pick [0, 1, 3, 4, 5, 6] (by decide)
    exact h4⟩
  clear HS4 HSA hbA
  go_wp2_with fail
  go_region_law
    (refine step_app1 rfl (.tmp 29) (.tmp 31) 39 94 (.agg #[.int .i64 0, .int .i64 0, .int .u64 0]) 3 24 (by kernel_rfl) Try.underlying39 rfl (by decide) rfl (.slice A len cp) len (chCells ml) [.int .i64 c.kind, .int .i64 c.key, .int .u64 c.val] W1.heap.size 94 rfl rfl (HROW.out _ (by first | exact below_alloc (Below.refl _ _) _ | exact below_drew (below_alloc (Below.refl _ _) _) | exact below_alloc (below_drew (Below.refl _ _)) _)) (by first | exact heap_alloc_new W1 _ | exact heap_alloc_new W1.drew _) rfl HNEW.out HLE.out (by decide) ?_; intro v4 w4 ho4 hg4 hn4; obtain ⟨A4, c4, rfl, _, _⟩ := row_form ho4; obtain ⟨⟨c0, g0⟩, hst4⟩ := HFIN.out _ _ _ (by first | exact below_alloc (Below.refl _ _) _ | exact below_drew (below_alloc (Below.refl _ _) _) | exact below_alloc (below_drew (Below.refl _ _)) _) ho4 hg4 hn4; have HST5 := Aside0.mk hst4; clear ho4 hg4 hn4 hst4)
  all_goals
    go_wp2_with fail
    go_end0
    first
      | exact HCLOSE.out _ _ _ HST5.out
      | exact HCLOSE.out _ _ _ HST5.out.drew
theorem ptr_one (q : Nat) : ∀ u ∈ [evP q], u.oneCell' = true := fun u hu => by obtain rfl := List.mem_singleton.1 hu; rfl
set_option maxRecDepth 100000 in
set_option maxHeartbeats 4000000 in
theorem qnote_new (w : World) (F : Nat → Prop) (b : Nat) (r : Raw) (M : QM) (q : QU) (n : Int) (c : Ch) (hq : QuIs r M q) (hs : q.small) (h : Sep (quL b r M q.items) w F) (hf : qFind (M.map (·.2)) n = none) :
    Calls Try.prog 67 #[.pointer (some ⟨b, 34, none⟩), .int .i64 n, .agg #[.int .i64 c.kind, .int .i64 c.key, .int .u64 c.val]] w (Ret w F (QuN b r (q.note n c))) := by
  have HQ := Aside0.mk hq
  have hM : M.length ≤ 1000 := by have := hs.works; rw [← hq.works] at this; simpa using this
  have HST0 : Aside0 (St w F (w.alloc (.cells #[.int .i64 c.kind, .int .i64 c.key, .int .u64 c.val] 94)) (quL b r M q.items ++ [pt w.heap.size c.box])) := ⟨((St.start h).alloc _).pick [1, 2, 3, 4, 0] (by decide)⟩
  have HF := Aside0.mk (qfind_calls _ (New w F) b r M q.items n hq.ok (HST0.out.1.pick [0, 1, 2, 3] (by decide)) hM)
  have HN : Aside0 (q.note n c = { q with works := q.works ++ [⟨n, [c], false⟩] }) := ⟨by unfold QU.note; rw [qNote_none (by rw [← hq.works]; exact hf)]⟩
  rw [fVal_none hf] at HF
  obtain ⟨A, cp, ew, _, _, _⟩ := wrow_form (h.pick [2] (by decide)).one
  have HEW := Aside0.mk ew
  have HMM := Aside0.mk hM
  clear h hq hs hf hM ew
  go_enter Try.func67, Try.ntmps67
  go_wp2_with fail
  generalize w.heap.size = b5 at HST0 ⊢
  generalize w.alloc _ = W1 at HST0 HF ⊢
  refine HF.out.mono ?_
  rintro e W2 ⟨rfl, hw⟩
  have hw := hw.symm
  subst hw
  have HST1 : Aside0 (St w F (W1.alloc (.cells #[.int .i64 n, .slice none 0 0, .bool false] 135)) [pt b r.obj, wrowP r.wv M, pt W1.heap.size (.cells #[.int .i64 n, .slice none 0 0, .bool false] 135 (0, 0)), pt b5 c.box, itemP r.iv q.items, qObjs M]) := ⟨(HST0.out.alloc _).pick [1, 3, 0, 5, 2, 4] (by decide)⟩
  have c35 := (Raw.facts HQ.out.ok HST1.out.heap).2.2.2.1
  rw [HEW.out] at c35
  have hbp := below_alloc (Below.refl (W1.alloc (.cells #[.int .i64 n, .slice none 0 0, .bool false] 135)).heap.size (W1.alloc (.cells #[.int .i64 n, .slice none 0 0, .bool false] 135))) (.cells #[evP W1.heap.size] 131)
  have HST2 := Aside0.mk (HST1.out.below hbp)
  have HB2 : Aside0 (((W1.alloc (.cells #[.int .i64 n, .slice none 0 0, .bool false] 135)).alloc (.cells #[evP W1.heap.size] 131)).heap[W1.heap.size + 1]? = some (.cells #[evP W1.heap.size] 131 (0, 0))) := ⟨by
    have e : (W1.alloc (.cells #[.int .i64 n, .slice none 0 0, .bool false] 135)).heap.size = W1.heap.size + 1 := by simp
    rw [← e]
    exact heap_alloc_new _ _⟩
  obtain ⟨m, hm⟩ : ∃ m, m = M.length := ⟨_, rfl⟩
  rw [← hm] at c35
  have HM := Aside0.mk hm
  have HROWP : Aside0 (OwnAt ((W1.alloc (.cells #[.int .i64 n, .slice none 0 0, .bool false] 135)).alloc (.cells #[evP W1.heap.size] 131)) 0 131 1 (.slice A m cp) m (qPtrs M)) := ⟨by
    have := (HST2.out.pick [1] (by decide)).1.one.1
    rw [HEW.out, ← HM.out] at this
    exact this⟩
  have HLM : Aside0 (m ≤ 10000000) := ⟨by rw [HM.out]; have := HMM.out; omega⟩
  have HAP : Aside0 (∀ w4 v4, OwnAt w4 0 131 1 v4 (m + 1) (qPtrs M ++ [evP W1.heap.size]) → ((W1.alloc (.cells #[.int .i64 n, .slice none 0 0, .bool false] 135)).alloc (.cells #[evP W1.heap.size] 131)).grownBy w4 (Value.slice A m cp).ownBlock → (v4.ownBlock = (Value.slice A m cp).ownBlock ∨ ∃ b, v4.ownBlock = some b ∧ ((W1.alloc (.cells #[.int .i64 n, .slice none 0 0, .bool false] 135)).alloc (.cells #[evP W1.heap.size] 131)).heap.size ≤ b) →
      (w4.cell? ⟨b, 35, none⟩ = some (.slice A m cp) ∧ w4.frozen? ⟨b, 35, none⟩ = false) ∧ St w F (w4.setCell ⟨b, 35, none⟩ v4) [pt W1.heap.size (.cells #[.int .i64 n, .slice none 0 0, .bool false] 135 (0, 0)), pt b5 c.box, qObjs M, pt b ({ r with wv := v4 } : Raw).obj, itemP r.iv q.items, row 131 1 v4 (m + 1) (qPtrs M ++ [evP W1.heap.size])]) := ⟨fun w4 v4 ho hg hn => by
    have h1 := HST2.out.pick [1, 0, 2, 3, 4, 5] (by decide)
    have h1' : St w F ((W1.alloc (.cells #[.int .i64 n, .slice none 0 0, .bool false] 135)).alloc (.cells #[evP W1.heap.size] 131)) (row 131 1 (.slice A m cp) m (qPtrs M) :: [pt b r.obj, pt W1.heap.size (.cells #[.int .i64 n, .slice none 0 0, .bool false] 135 (0, 0)), pt b5 c.box, itemP r.iv q.items, qObjs M]) := by
      have e : wrowP r.wv M = row 131 1 (.slice A m cp) m (qPtrs M) := by unfold wrowP; rw [HEW.out, HM.out]
      rw [← e]
      exact h1
    have h2 := (h1'.grown ho hg hn).pick [1, 0, 2, 3, 4, 5] (by decide)
    have c0 := (Raw.facts HQ.out.ok h2.heap).2.2.2.1
    rw [HEW.out, ← HM.out] at c0
    refine ⟨⟨c0, Raw.thaw h2.heap 35⟩, ?_⟩
    have h3 := h2.set 35 v4
    rw [Raw.set_wv HQ.out.ok] at h3
    exact h3.pick [2, 3, 5, 0, 4, 1] (by decide)⟩
  clear hbp hm HST2 HST0 HF
  go_wp2_with ((with_reducible refine gate_dst (N := 22) rfl ?_); at_builtin; refine wp_app1 rfl (.tmp 19) (.tmp 21) 81 131 (.pointer none) 1 8 (by kernel_rfl) Try.underlying81 rfl (by decide) rfl (.slice A m cp) m (qPtrs M) [evP W1.heap.size] _ 131 rfl rfl HROWP.out HB2.out rfl (ptr_one _) HLM.out (by decide) ?_; intro v4 w4 ho4 hg4 hn4; obtain ⟨A4, c4, rfl, _, _⟩ := row_form ho4; obtain ⟨⟨c0, g0⟩, hst4⟩ := HAP.out _ _ ho4 hg4 hn4; have HST3 := Aside0.mk hst4; clear ho4 hg4 hn4 hst4)
  generalize W1.heap.size = qb at HST3 ⊢
  clear HST1 c35 HAP HROWP HB2
  generalize w4.setCell _ _ = W3 at HST3 ⊢
  have HLE : Aside0 (0 ≤ 10000000) := ⟨by decide⟩
  have HCLOSE : Aside0 (∀ W A5 c5, St w F W [pt qb (.cells #[.int .i64 n, .slice A5 (0 + 1) c5, .bool false] 135 (0, 0)), row 94 3 (.slice A5 (0 + 1) c5) (0 + 1) (chCells [] ++ c.cs), qObjs M, pt b ({ r with wv := .slice A4 (m + 1) c4 } : Raw).obj, itemP r.iv q.items, row 131 1 (.slice A4 (m + 1) c4) (m + 1) (qPtrs M ++ [evP qb])] → Ret w F (QuN b r (q.note n c)) (.returned (.tuple #[])) W) := ⟨fun W A5 c5 hst => by
    rw [HN.out]
    have h2 := Sep.qw_shut (ch := [c]) hst.1
    have h3 := Sep.q_new (m := (qb, ⟨n, [c], false⟩)) h2
    have h4 : St w F W [qObjs (M ++ [(qb, ⟨n, [c], false⟩)]), pt b ({ r with wv := .slice A4 (m + 1) c4 } : Raw).obj, itemP r.iv q.items, row 131 1 (.slice A4 (m + 1) c4) (m + 1) (qPtrs M ++ [evP qb])] := ⟨h3, hst.2⟩
    refine (h4.pick [1, 2, 3, 0] (by decide)).ret ⟨{ r with wv := .slice A4 (m + 1) c4 }, M ++ [(qb, ⟨n, [c], false⟩)], rfl, ⟨HQ.out.ok, ?_, HQ.out.given⟩, ⟨rfl, rfl⟩, ?_⟩
    · rw [List.map_append, HQ.out.works]; rfl
    · have e : row 131 1 (.slice A4 (m + 1) c4) (m + 1) (qPtrs M ++ [evP qb]) = wrowP (.slice A4 (m + 1) c4) (M ++ [(qb, ⟨n, [c], false⟩)]) := by
        unfold wrowP qPtrs
        rw [List.length_append, List.map_append, HM.out]
        rfl
      unfold quL
      rw [← e]
      rfl⟩
  have HST4 : Aside0 (St w F W3 [pt qb (.cells #[.int .i64 n, .slice none 0 0, .bool false] 135 (0, 0)), row 94 3 (.slice none 0 0) 0 (chCells []), pt b5 c.box, qObjs M, pt b ({ r with wv := .slice A4 (m + 1) c4 } : Raw).obj, itemP r.iv q.items, row 131 1 (.slice A4 (m + 1) c4) (m + 1) (qPtrs M ++ [evP qb])]) := ⟨(St.free (l := [pt qb (.cells #[.int .i64 n, .slice none 0 0, .bool false] 135 (0, 0)), pt b5 c.box, qObjs M, pt b ({ r with wv := .slice A4 (m + 1) c4 } : Raw).obj, itemP r.iv q.items, row 131 1 (.slice A4 (m + 1) c4) (m + 1) (qPtrs M ++ [evP qb])]) (row_nil W3 _ _ _) HST3.out).pick [1, 0, 2, 3, 4, 5, 6] (by decide)⟩
  have HROW : Aside0 (∀ W, Below W3.heap.size W3 W → OwnAt W 0 94 3 (.slice none 0 0) 0 (chCells [])) := ⟨fun W hW => (HST4.out.below hW).1.tail.head.1⟩
  have HS4 := Aside0.mk (And.intro (heap3 HST4.out.heap) (heap3 (HST4.out.pick [2] (by decide)).heap))
  have hbA := below_alloc (Below.refl W3.heap.size W3) (.cells #[.int .i64 c.kind, .int .i64 c.key, .int .u64 c.val] 94)
  have HSA := Aside0.mk (And.intro (heap3 (HST4.out.below hbA).heap) (heap3 ((HST4.out.below hbA).pick [2] (by decide)).heap))
  obtain ⟨⟨_, q1, _, _, f1, _⟩, x0, x1, x2, _⟩ := HS4.out
  obtain ⟨⟨_, q1a, _, _, f1a, _⟩, x0a, x1a, x2a, _⟩ := HSA.out
  have HNEW : Aside0 (∀ u ∈ [Value.int .i64 c.kind, .int .i64 c.key, .int .u64 c.val], u.oneCell' = true) := ⟨by simp [Value.oneCell']⟩
  have HFIN : Aside0 (∀ Wm w4 v4, Below W3.heap.size W3 Wm → OwnAt w4 0 94 3 v4 (0 + 1) (chCells [] ++ [.int .i64 c.kind, .int .i64 c.key, .int .u64 c.val]) → Wm.grownBy w4 (Value.slice none 0 0).ownBlock → (v4.ownBlock = (Value.slice none 0 0).ownBlock ∨ ∃ b, v4.ownBlock = some b ∧ Wm.heap.size ≤ b) →
      (w4.cell? ⟨qb, 1, none⟩ = some (.slice none 0 0) ∧ w4.frozen? ⟨qb, 1, none⟩ = false) ∧ St w F (w4.setCell ⟨qb, 1, none⟩ v4) [pt qb (.cells #[.int .i64 n, v4, .bool false] 135 (0, 0)), row 94 3 v4 (0 + 1) (chCells [] ++ c.cs), qObjs M, pt b ({ r with wv := .slice A4 (m + 1) c4 } : Raw).obj, itemP r.iv q.items, row 131 1 (.slice A4 (m + 1) c4) (m + 1) (qPtrs M ++ [evP qb])]) := ⟨fun Wm w4 v4 hB ho hg hn => by
    have h1 : St w F Wm (row 94 3 (.slice none 0 0) 0 (chCells []) :: pt qb (.cells #[.int .i64 n, .slice none 0 0, .bool false] 135 (0, 0)) :: [pt b5 c.box, qObjs M, pt b ({ r with wv := .slice A4 (m + 1) c4 } : Raw).obj, itemP r.iv q.items, row 131 1 (.slice A4 (m + 1) c4) (m + 1) (qPtrs M ++ [evP qb])]) := (HST4.out.below hB).pick [1, 0, 2, 3, 4, 5, 6] (by decide)
    have h2 := h1.grown ho hg hn
    have h3 := h2.pick [1, 0, 2, 3, 4, 5, 6] (by decide)
    obtain ⟨_, c0, _, _, g0, _⟩ := heap3 h3.heap
    refine ⟨⟨c0, g0⟩, ?_⟩
    have h4 := (h3.set 1 v4).pick [0, 1, 3, 4, 5, 6] (by decide)
    exact h4⟩
  clear HS4 HSA hbA
  go_wp2_with fail
  go_region_law
    (refine step_app1 rfl (.tmp 29) (.tmp 31) 39 94 (.agg #[.int .i64 0, .int .i64 0, .int .u64 0]) 3 24 (by kernel_rfl) Try.underlying39 rfl (by decide) rfl (.slice none 0 0) 0 (chCells []) [.int .i64 c.kind, .int .i64 c.key, .int .u64 c.val] W3.heap.size 94 rfl rfl (HROW.out _ (by first | exact below_alloc (Below.refl _ _) _ | exact below_drew (below_alloc (Below.refl _ _) _) | exact below_alloc (below_drew (Below.refl _ _)) _)) (by first | exact heap_alloc_new W3 _ | exact heap_alloc_new W3.drew _) rfl HNEW.out HLE.out (by decide) ?_; intro v4 w4 ho4 hg4 hn4; obtain ⟨A4, c4, rfl, _, _⟩ := row_form ho4; obtain ⟨⟨c0, g0⟩, hst4⟩ := HFIN.out _ _ _ (by first | exact below_alloc (Below.refl _ _) _ | exact below_drew (below_alloc (Below.refl _ _) _) | exact below_alloc (below_drew (Below.refl _ _)) _) ho4 hg4 hn4; have HST5 := Aside0.mk hst4; clear ho4 hg4 hn4 hst4)
  all_goals
    go_wp2_with fail
    go_end0
    first
      | exact HCLOSE.out _ _ _ HST5.out
      | exact HCLOSE.out _ _ _ HST5.out.drew
theorem qnote_calls (w : World) (F : Nat → Prop) (b : Nat) (r : Raw) (M : QM) (q : QU) (n : Int) (c : Ch) (hq : QuIs r M q) (hs : q.small) (h : Sep (quL b r M q.items) w F) :
    Calls Try.prog 67 #[.pointer (some ⟨b, 34, none⟩), .int .i64 n, .agg #[.int .i64 c.kind, .int .i64 c.key, .int .u64 c.val]] w (Ret w F (QuN b r (q.note n c))) := by
  cases hf : qFind (M.map (·.2)) n with
  | none => exact qnote_new w F b r M q n c hq hs h hf
  | some i => exact qnote_old w F b r M q n c hq hs h i hf
end Go.Proofs.Ytobljkhidgbeoaa.Oct
