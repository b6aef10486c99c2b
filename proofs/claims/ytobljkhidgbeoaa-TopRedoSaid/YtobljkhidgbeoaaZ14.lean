
import Derived.Test.YtobljkhidgbeoaaZ13
/- The queue: fit, decided, Next, puts, room. -/
namespace Go.Proofs.Ytobljkhidgbeoaa.Oct
open Go.RowKit Go.Proofs.YtobljkhidgbeoaaW.PrintWords Go.Proofs.Ytobljkhidgbeoaa.M
set_option linter.unusedVariables false
set_option linter.unusedSimpArgs false
theorem fVal_none {M : QM} {n : Int} (h : qFind (M.map (·.2)) n = none) : fVal M n = .pointer none := by unfold fVal; rw [h]
theorem fVal_some {M : QM} {n : Int} {i : Nat} (h : qFind (M.map (·.2)) n = some i) : ∃ m, M[i]? = some m ∧ fVal M n = evP m.1 ∧ m.2.n = n := by
  have h0 := h
  unfold qFind at h0
  obtain ⟨hl, h1, _⟩ := List.findIdx?_eq_some_iff_getElem.1 h0
  have hl' : i < M.length := by simpa using hl
  refine ⟨M[i], List.getElem?_eq_getElem hl', ?_, by simpa using h1⟩
  unfold fVal
  rw [h]
  simp only [List.getD_eq_getElem?_getD, List.getElem?_eq_getElem hl', Option.getD_some]
set_option maxHeartbeats 1000000 in
theorem qfit_calls (w : World) (F : Nat → Prop) (b : Nat) (r : Raw) (M : QM) (q : QU) (n : Int) (hq : QuIs r M q) (hs : q.small) (h : Sep (quL b r M q.items) w F) :
    Calls Try.prog 71 #[.pointer (some ⟨b, 34, none⟩), .int .i64 n] w fun e w' => e = .returned (.int .i64 (q.fit n)) ∧ w' = w := by
  by_cases h1 : n < 1
  · have HX : Aside0 (q.fit n = 1) := ⟨by unfold QU.fit; rw [if_pos h1]⟩
    clear h hq hs
    go_enter Try.func71, Try.ntmps71
    go_wp2
    go_ret
    rw [HX.out]
    exact ⟨rfl, rfl⟩
  · have hM : M.length ≤ 1000 := by have := hs.works; rw [← hq.works] at this; simpa using this
    have HF := Aside0.mk (qfind_calls w F b r M q.items n hq.ok h hM)
    cases hf : qFind (M.map (·.2)) n with
    | none =>
      have HX : Aside0 (q.fit n = 0) := ⟨by unfold QU.fit; rw [if_neg h1, find_none (by rw [← hq.works]; exact hf)]; rfl⟩
      rw [fVal_none hf] at HF
      clear h hq hs hf
      go_enter Try.func71, Try.ntmps71
      go_wp2_with fail
      refine HF.out.mono ?_
      rintro e W1 ⟨rfl, hw⟩
      have hw := hw.symm
      subst hw
      go_wp2_with fail
      go_ret
      rw [HX.out]
      exact ⟨rfl, rfl⟩
    | some i =>
      obtain ⟨m, hm, hv, hmn⟩ := fVal_some hf
      obtain ⟨x, hx1, hx2, hx3⟩ := find_some (q := q) (n := n) (i := i) (by rw [← hq.works]; exact hf)
      have hxm : x = m.2 := by
        rw [← hq.works, List.getElem?_map, hm] at hx1
        injection hx1 with hx1
        exact hx1.symm
      rw [hv] at HF
      simp only [evP] at HF
      obtain ⟨lv, hh⟩ := qw_cell (h.pick [3] (by decide)) hm
      obtain ⟨_, _, x2, _⟩ := heap3 hh
      cases hp : m.2.prep with
      | true =>
        have HX : Aside0 (q.fit n = 7) := ⟨by unfold QU.fit; rw [if_neg h1, hx3, hxm]; simp [hp]⟩
        rw [hp] at x2
        clear h hq hs hf hm hv hmn hx1 hx2 hx3 hxm hh hp
        go_enter Try.func71, Try.ntmps71
        go_wp2_with fail
        refine HF.out.mono ?_
        rintro e W1 ⟨rfl, hw⟩
        have hw := hw.symm
        subst hw
        go_wp2_with fail
        go_ret
        rw [HX.out]
        exact ⟨rfl, rfl⟩
      | false =>
        have HX : Aside0 (q.fit n = 0) := ⟨by unfold QU.fit; rw [if_neg h1, hx3, hxm]; simp [hp]⟩
        rw [hp] at x2
        clear h hq hs hf hm hv hmn hx1 hx2 hx3 hxm hh hp
        go_enter Try.func71, Try.ntmps71
        go_wp2_with fail
        refine HF.out.mono ?_
        rintro e W1 ⟨rfl, hw⟩
        have hw := hw.symm
        subst hw
        go_wp2_with fail
        go_ret
        rw [HX.out]
        exact ⟨rfl, rfl⟩
theorem qdecided_bad (w : World) (b : Nat) (n : Int) (hn : n < 1) :
    Calls Try.prog 64 #[.pointer (some ⟨b, 34, none⟩), .int .i64 n] w fun e w' => e = .returned (.int .i64 1) ∧ w' = w := by
  go_enter Try.func64, Try.ntmps64
  go_wp2
  go_ret
  exact ⟨rfl, rfl⟩
theorem qdecided_good (w : World) (b : Nat) (n : Int) (hn : ¬ n < 1) :
    Calls Try.prog 64 #[.pointer (some ⟨b, 34, none⟩), .int .i64 n] w fun e w' => e = .returned (.int .i64 0) ∧ w' = w := by
  go_enter Try.func64, Try.ntmps64
  go_wp2
  go_ret
  exact ⟨rfl, rfl⟩
theorem qnext_calls (w : World) (b : Nat) (r : Raw) (hr : r.ok) (hb : w.heap[b]? = some r.obj) (h0 : 0 ≤ r.given) (hg : r.given ≤ 4611686018427387904) :
    Calls Try.prog 26 #[.pointer (some ⟨b, 34, none⟩)] w fun e w' => e = .returned (.int .i64 (r.given + 1)) ∧ w' = w := by
  have c36 := (Raw.facts hr hb).2.2.2.2.1
  obtain ⟨g, hgv⟩ : ∃ g, g = r.given := ⟨_, rfl⟩
  rw [← hgv] at c36 h0 hg ⊢
  clear hr hb hgv
  go_enter Try.func26, Try.ntmps26
  go_wp2
  go_ret
  exact ⟨rfl, rfl⟩
theorem chPuts_take (l : List Ch) (k : Nat) (hk : k < l.length) : chPuts (l.take (k + 1)) = chPuts (l.take k) + if (l.getD k ch0).kind == 3 then 1 else 0 := by
  unfold chPuts
  rw [List.take_succ_eq_append_getElem hk, List.filter_append, List.length_append, List.getD_eq_getElem?_getD, List.getElem?_eq_getElem hk]
  simp only [Option.getD_some, List.filter_cons, List.filter_nil]
  split <;> rfl
theorem chPuts_le (l : List Ch) : chPuts l ≤ l.length := List.length_filter_le _ _
set_option maxHeartbeats 1000000 in
theorem qputs_calls (w : World) (l : List Ch) (A : Option Addr) (cp : Nat) (h : ChAt w A l) (hll : l.length ≤ 10000000) :
    Calls Try.prog 77 #[.slice A l.length cp] w fun e w' => e = .returned (.int .i64 (chPuts l)) ∧ Below w.heap.size w w' := by
  have HL := Aside0.mk h
  obtain ⟨m, hm⟩ : ∃ m, m = l.length := ⟨_, rfl⟩
  rw [← hm]
  have HM := Aside0.mk hm
  have hm2 : m ≤ 10000000 := by omega
  clear h hll hm
  go_enter Try.func77, Try.ntmps77
  go_wp2_with fail
  go_loopw [3, 5, 8] (fun v3 _ v8 wr => ∃ k p : Nat, k ≤ m ∧ v8 = .int .i64 k ∧ v3 = .int .i64 p ∧ p ≤ k ∧ Aside0 (Below w.heap.size w wr) ∧ Aside0 (p = chPuts (l.take k))) (fun _ _ v _ => m - (intOf v).toNat)
  case atStart => exact ⟨0, 0, by omega, rfl, rfl, by omega, ⟨Below.refl _ _⟩, ⟨rfl⟩⟩
  case round =>
    obtain ⟨k, p, hk, rfl, rfl, hp, HB, HP⟩ := hrel
    by_cases hlt : k < m
    · have hlt' : (k : Int) < (m : Int) := by omega
      have hkl : k < l.length := by rw [← HM.out]; exact hlt
      obtain ⟨ad, rfl, k0, k1, k2⟩ := (HL.out.below HB.out) k hkl
      have hst := chPuts_take l k hkl
      obtain ⟨c, hc⟩ : ∃ c, c = l.getD k ch0 := ⟨_, rfl⟩
      rw [← hc] at k0 k1 k2 hst
      have HST := Aside0.mk hst
      have HB2 : Aside0 (Below w.heap.size w (wr.alloc (.cells #[.int .i64 c.kind, .int .i64 c.key, .int .u64 c.val] 94))) := ⟨HB.out.trans ((below_alloc (Below.refl _ _) _).mono HB.out.size)⟩
      clear hc hst
      cases hd : (c.kind == 3) with
      | true =>
        have HP2 : Aside0 (p + 1 = chPuts (l.take (k + 1))) := ⟨by rw [HST.out, HP.out, hd]; rfl⟩
        go_wp2_with fail
        exact ⟨⟨k + 1, p + 1, by omega, by go_num, by go_num, by omega, HB2, HP2⟩, by simp [intOf]; omega⟩
      | false =>
        have HP2 : Aside0 (p = chPuts (l.take (k + 1))) := ⟨by rw [HST.out, HP.out, hd]; rfl⟩
        go_wp2_with fail
        exact ⟨⟨k + 1, p, by omega, by go_num, rfl, by omega, HB2, HP2⟩, by simp [intOf]; omega⟩
    · obtain rfl : k = m := by omega
      have HX : Aside0 (chPuts l = p) := ⟨by rw [HP.out, HM.out, List.take_length]⟩
      go_wp2_with fail
      go_ret
      rw [HX.out]
      exact ⟨rfl, HB.out⟩
def putsSum (l : List QW) : Nat := (l.map fun w => chPuts w.list).sum
theorem putsSum_take (l : List QW) (k : Nat) (hk : k < l.length) : putsSum (l.take (k + 1)) = putsSum (l.take k) + chPuts l[k].list := by
  unfold putsSum
  rw [List.take_succ_eq_append_getElem hk, List.map_append, List.sum_append]
  simp
theorem putsSum_le (l : List QW) (B : Nat) (h : ∀ x ∈ l, x.list.length ≤ B) : putsSum l ≤ l.length * B := by
  induction l with
  | nil => simp [putsSum]
  | cons x l ih =>
    have h1 := ih (fun y hy => h y (List.mem_cons_of_mem _ hy))
    have h2 := h x List.mem_cons_self
    have h3 := chPuts_le x.list
    unfold putsSum at h1 ⊢
    simp only [List.map_cons, List.sum_cons, List.length_cons, Nat.add_mul, Nat.one_mul]
    omega
set_option maxHeartbeats 2000000 in
theorem qroom_calls (w : World) (F : Nat → Prop) (b : Nat) (r : Raw) (M : QM) (q : QU) (hq : QuIs r M q) (hs : q.small) (h : Sep (quL b r M q.items) w F) :
    Calls Try.prog 72 #[.pointer (some ⟨b, 34, none⟩)] w fun e w' => e = .returned (.int .i64 q.room) ∧ Below w.heap.size w w' := by
  have HST0 := Aside0.mk (St.start h)
  have HQ := Aside0.mk hq
  obtain ⟨A, c, e, hc1, hc2, hat⟩ := wrow_form (h.pick [2] (by decide)).one
  obtain ⟨A1, c1, e1, _, _⟩ := row_form (h.pick [1] (by decide)).one.1
  have c35 := (Raw.facts hq.ok h.heap.1).2.2.2.1
  rw [e] at c35
  have HE1 := Aside0.mk e1
  have HAT := Aside0.mk hat
  have HS := Aside0.mk hs
  obtain ⟨m, hm⟩ : ∃ m, m = M.length := ⟨_, rfl⟩
  rw [← hm] at c35
  have HM := Aside0.mk hm
  have hm2 : m ≤ 1000 := by have := hs.works; rw [← hq.works] at this; simp at this; omega
  have hroom : q.room = min (16 - (q.items.length : Int) - (putsSum q.works : Nat)) (4611686018427387904 - (q.given + 1) - (putsSum q.works : Nat)) := rfl
  have HROOM := Aside0.mk hroom
  have hsum := putsSum_le q.works 1000 hs.lists
  have HSUM : Aside0 (putsSum q.works ≤ 1000000) := ⟨by have := hs.works; have := Nat.mul_le_mul_right 1000 this; omega⟩
  clear h hq hs e e1 hc1 hc2 hat hm hroom hsum
  go_enter Try.func72, Try.ntmps72
  go_wp2_with fail
  go_loopw [3, 5, 11] (fun v3 _ v11 wr => ∃ k p : Nat, k ≤ m ∧ v11 = .int .i64 k ∧ v3 = .int .i64 p ∧ p ≤ k * 1000 ∧ Aside0 (Below w.heap.size w wr) ∧ Aside0 (p = putsSum (q.works.take k))) (fun _ _ v _ => m - (intOf v).toNat)
  case atStart => exact ⟨0, 0, by omega, rfl, rfl, by omega, ⟨Below.refl _ _⟩, ⟨by simp [putsSum]⟩⟩
  case round =>
    obtain ⟨k, p, hk, rfl, rfl, hp, HB, HP⟩ := hrel
    have HSTW := Aside0.mk (HST0.out.below HB.out)
    by_cases hlt : k < m
    · have hlt' : (k : Int) < (m : Int) := by omega
      have hkl : k < M.length := by rw [← HM.out]; exact hlt
      obtain ⟨ad, rfl, k0⟩ := (HAT.out.below HB.out) k (by simpa using hkl)
      have hk0 : M[k]? = some M[k] := List.getElem?_eq_getElem hkl
      have hk1 : (M.map (·.1)).getD k 0 = M[k].1 := by rw [List.getD_eq_getElem?_getD, List.getElem?_map, hk0]; rfl
      rw [hk1] at k0
      obtain ⟨lv, hst⟩ := ((HSTW.out.pick [3] (by decide)).1.q_take hk0).qw_open
      obtain ⟨A2, c2, rfl, _, _, hat2⟩ := chRow_form (hst.pick [1] (by decide)).one
      have hwk : q.works[k]? = some M[k].2 := by rw [← HQ.out.works, List.getElem?_map, hk0]; rfl
      obtain ⟨hkw, hkw2⟩ := List.getElem?_eq_some_iff.1 hwk
      have hsl := HS.out.lists M[k].2 (by rw [← hkw2]; exact List.getElem_mem hkw)
      have hps := putsSum_take q.works k hkw
      rw [hkw2] at hps
      have HC := Aside0.mk (qputs_calls wr M[k].2.list A2 c2 hat2 (by omega))
      obtain ⟨_, x1, _⟩ := heap3 hst.heap.1
      have hpl := chPuts_le M[k].2.list
      generalize M[k] = x at k0 x1 HC hps hsl hpl
      obtain ⟨qb, x⟩ := x
      simp only [evP] at k0
      generalize chPuts x.list = d at HC hps hpl
      have HP2 : Aside0 (p + d = putsSum (q.works.take (k + 1))) := ⟨by rw [hps, HP.out]⟩
      have hd : d ≤ 1000 := by simp only at hpl hsl; omega
      clear hst hat2 hwk hkw2 hps hsl hpl hk0 hk1
      simp only at x1 HC
      generalize x.list.length = len at x1 HC
      go_wp2_with fail
      refine HC.out.mono ?_
      rintro e W1 ⟨rfl, hb1⟩
      have HB2 := Aside0.mk (HB.out.trans (hb1.mono HB.out.size))
      clear hb1
      go_wp2_with fail
      exact ⟨⟨k + 1, p + d, by omega, by go_num, by go_num, by omega, HB2, HP2⟩, by simp [intOf]; omega⟩
    · obtain rfl : k = m := by omega
      have hfin : p = putsSum q.works := by rw [HP.out, HM.out]; congr 1; apply List.take_of_length_le; rw [← HQ.out.works]; simp
      have hgs := HS.out.num
      have c34 := (Raw.facts HQ.out.ok HSTW.out.heap).2.2.1
      rw [HE1.out] at c34
      have HNX := Aside0.mk (fun n => qnext_calls (wr.drewN n) b r HQ.out.ok (HSTW.out.drewN n).heap (by rw [HQ.out.given]; exact hgs.2.1) (by rw [HQ.out.given]; exact hgs.2.2))
      have hil := HS.out.items
      have hsum := HSUM.out
      rw [← hfin] at HROOM hsum
      rw [HQ.out.given] at HNX
      generalize q.given = g at HROOM hgs HNX
      generalize q.items.length = il at HROOM hil c34
      have hg0 := hgs.2.1
      have hg1 := hgs.2.2
      have w1 : IntKind.i64.wrap (16 - (il : Int)) = 16 - (il : Int) := IntWalk.i64_in _ (by omega)
      have w2 : IntKind.i64.wrap (16 - (il : Int) - (p : Int)) = 16 - (il : Int) - (p : Int) := IntWalk.i64_in _ (by omega)
      have w3 : IntKind.i64.wrap (4611686018427387904 - (g + 1)) = 4611686018427387904 - (g + 1) := IntWalk.i64_in _ (by omega)
      have w4 : IntKind.i64.wrap (4611686018427387904 - (g + 1) - (p : Int)) = 4611686018427387904 - (g + 1) - (p : Int) := IntWalk.i64_in _ (by omega)
      clear hgs hfin HS HP
      go_wp2_with fail
      go_quiet ((go_at_call 26; exact Calls.quiet_of_same (HNX.out _)))
      go_wp2_with fail
      all_goals
        go_ret
        rw [HROOM.out]
        refine ⟨?_, HB.out.trans ((below_drawN _ _).mono HB.out.size)⟩
        exact congrArg (fun z => Ending.returned (Value.int .i64 z)) (by simp only [Int.min_def]; split <;> omega)
end Go.Proofs.Ytobljkhidgbeoaa.Oct
