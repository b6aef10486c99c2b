
import Derived.Test.YtobljkhidgbeoaaZ18
/- The queue: Commit. -/
namespace Go.Proofs.Ytobljkhidgbeoaa.Oct
open Go.RowKit Go.Proofs.YtobljkhidgbeoaaW.PrintWords Go.Proofs.Ytobljkhidgbeoaa.M
set_option linter.unusedVariables false
set_option linter.unusedSimpArgs false
def QU.strip (q : QU) (n : Int) : QU := { q with items := q.items.filter fun x => x.work != n }
theorem qDo_works (l : List Ch) : ∀ q : QU, (l.foldl qDo q).works = q.works := by
  induction l with
  | nil => intro q; rfl
  | cons c l ih => intro q; rw [List.foldl_cons, ih]; unfold qDo; split <;> rfl
theorem qDo_snoc (q : QU) (l : List Ch) (k : Nat) (hk : k < l.length) : (l.take (k + 1)).foldl qDo q = qDo ((l.take k).foldl qDo q) (l.getD k ch0) := by
  rw [List.take_succ_eq_append_getElem hk, List.foldl_append, List.getD_eq_getElem?_getD, List.getElem?_eq_getElem hk]
  rfl
theorem qi_cells_app1 (l : List QI) (x : QI) : qiCells (l ++ [x]) = qiCells l ++ x.cs := by simp [qiCells]
set_option maxRecDepth 100000 in
set_option maxHeartbeats 8000000 in
theorem qcommit_good (w : World) (F : Nat → Prop) (b : Nat) (r : Raw) (M : QM) (q : QU) (n : Int) (hq : QuIs r M q) (hs : q.small) (h : Sep (quL b r M q.items) w F) (h1 : ¬ n < 1) :
    Calls Try.prog 55 #[.pointer (some ⟨b, 34, none⟩), .int .i64 n] w (Ret w F (QuR b r (q.commit n))) := by
  have HQ := Aside0.mk hq
  have HX : Aside0 (q.commit n = ((((q.find n).map (·.list)).getD [] |>.foldl qDo (q.strip n)).gone n, 0)) := ⟨by unfold QU.commit; rw [if_neg h1]; rfl⟩
  obtain ⟨A, c, e, _, _, _⟩ := item_form (h.pick [1] (by decide)).one
  have HM : Aside0 (M.length ≤ 1000) := ⟨by have := hs.works; rw [← hq.works] at this; simpa using this⟩
  have HSM := Aside0.mk hs
  have HE := Aside0.mk e
  have HST0 : Aside0 (St w F (w.alloc (.cells #[.int .i64 n] 3)) ([row 115 3 (.slice A q.items.length c) q.items.length (qiCells q.items), pt w.heap.size (.cells #[.int .i64 n] 3 (0, 0))] ++ [pt b r.obj, wrowP r.wv M, qObjs M])) := ⟨by
    have := ((St.start h).alloc (.cells #[.int .i64 n] 3)).pick [2, 0, 1, 3, 4] (by decide)
    have e2 : itemP r.iv q.items = row 115 3 (.slice A q.items.length c) q.items.length (qiCells q.items) := by unfold itemP; rw [HE.out]
    rw [← e2]
    exact this⟩
  have HD := Aside0.mk (HST0.out.call (fun F1 h1 => qi_delete _ F1 q.items A c n w.heap.size (by have := hs.items; omega) h1))
  have c34 := (Raw.facts hq.ok (HST0.out.pick [2] (by decide)).heap).2.2.1
  rw [e] at c34
  obtain ⟨x0, _⟩ := heap1 (HST0.out.pick [1] (by decide)).heap
  have HDC := Aside0.mk (qdecided_good (w.alloc (.cells #[.int .i64 n] 3)) b n h1)
  have HN1 := Aside0.mk h1
  obtain ⟨m, hm⟩ : ∃ m, m = q.items.length := ⟨_, rfl⟩
  rw [← hm] at HD c34
  clear hq hs h e HST0 hm h1
  go_enter Try.func55, Try.ntmps55
  go_wp2_with fail
  refine HDC.out.mono ?_
  rintro e W1 ⟨rfl, hw⟩
  have hw := hw.symm
  subst hw
  go_wp2_with fail
  refine HD.out.mono ?_
  rintro e W1 ⟨l', ⟨v, rfl, rfl⟩, hst⟩
  obtain ⟨A2, c2, rfl, _, _⟩ := row_form (hst.pick [0] (by decide)).1.one.1
  obtain ⟨il, hil⟩ : ∃ il, il = (q.items.filter fun x => !(x.work == n)).length := ⟨_, rfl⟩
  have HST1 : Aside0 (St w F W1 [pt b r.obj, row 115 3 (.slice A2 il c2) il (qiCells (q.items.filter fun x => !(x.work == n))), wrowP r.wv M, qObjs M, pt w.heap.size (.cells #[.int .i64 n] 3 (0, 0))]) := ⟨by rw [hil]; exact hst.pick [2, 0, 3, 4, 1] (by decide)⟩
  rw [← hil]
  have HIL := Aside0.mk hil
  have d34 := (Raw.facts HQ.out.ok HST1.out.heap).2.2.1
  rw [HE.out] at d34
  have f34 := Raw.thaw HST1.out.heap 34
  have HST2 : Aside0 (St w F (W1.setCell ⟨b, 34, none⟩ (.slice A2 il c2)) (quL b { r with iv := .slice A2 il c2 } M (q.strip n).items ++ [pt w.heap.size (.cells #[.int .i64 n] 3 (0, 0))])) := ⟨by
    have h2 := HST1.out.set 34 (.slice A2 il c2)
    rw [Raw.set_iv HQ.out.ok] at h2
    have e2 : row 115 3 (.slice A2 il c2) il (qiCells (q.items.filter fun x => !(x.work == n))) = itemP (.slice A2 il c2) (q.strip n).items := by
      unfold itemP
      rw [HIL.out]
      rfl
    rw [e2] at h2
    exact h2⟩
  obtain ⟨y0, _⟩ := heap1 (HST2.out.pick [4] (by decide)).heap
  have HF := Aside0.mk (qfind_calls _ (New w F) b { r with iv := .slice A2 il c2 } M (q.strip n).items n HQ.out.ok (HST2.out.1.pick [0, 1, 2, 3] (by decide)) HM.out)
  clear hst HST1 hil c34 x0
  cases hf : qFind (M.map (·.2)) n with
  | none =>
    rw [fVal_none hf] at HF
    have HFN : Aside0 (q.find n = none) := ⟨find_none (by rw [← HQ.out.works]; exact hf)⟩
    clear hf
    go_wp2_with fail
    generalize W1.setCell _ _ = W2 at HST2 HF y0
    refine HF.out.mono ?_
    rintro e W3 ⟨rfl, hw⟩
    have hw := hw.symm
    subst hw
    have HG := Aside0.mk (St.call (l1 := quL b { r with iv := .slice A2 il c2 } M (q.strip n).items) (l2 := []) (HST2.out.pick [0, 1, 2, 3] (by decide)) (fun F1 h1 => qgone_calls W2 F1 b { r with iv := .slice A2 il c2 } M _ n HQ.out.ok (by have := HM.out; omega) h1))
    clear d34 f34
    go_wp2_with fail
    refine HG.out.mono ?_
    rintro e W3 ⟨l', ⟨wv, rfl, rfl⟩, hst⟩
    have HST3 := Aside0.mk hst
    clear hst
    go_wp2_with fail
    go_ret
    rw [HX.out, HFN.out]
    have h3 := HST3.out
    rw [List.append_nil] at h3
    exact h3.ret ⟨{ r with iv := .slice A2 il c2, wv := wv }, _, rfl, gone_q (r := { r with iv := .slice A2 il c2 }) (q := q.strip n) ⟨HQ.out.ok, HQ.out.works, HQ.out.given⟩ n wv, rfl, rfl⟩
  | some i =>
    obtain ⟨mm, hmi, hv, hmn⟩ := fVal_some hf
    obtain ⟨x, hx1, hx2, hx3⟩ := find_some (q := q) (n := n) (i := i) (by rw [← HQ.out.works]; exact hf)
    have hxm : x = mm.2 := by
      rw [← HQ.out.works, List.getElem?_map, hmi] at hx1
      injection hx1 with hx1
      exact hx1.symm
    have HFN : Aside0 (q.find n = some mm.2) := ⟨by rw [hx3, hxm]⟩
    have hll : mm.2.list.length ≤ 1000 := HSM.out.lists mm.2 (List.mem_of_getElem? (by rw [hx1, hxm]))
    rw [hv] at HF
    have HMI := Aside0.mk hmi
    obtain ⟨lv, hst⟩ := ((HST2.out.1.pick [3, 0, 1, 2, 4] (by decide)).q_take hmi).qw_open
    obtain ⟨A3, c3, rfl, _, _, _⟩ := chRow_form (hst.pick [1] (by decide)).one
    obtain ⟨qb, mw⟩ := mm
    obtain ⟨mn, ml, mp⟩ := mw
    simp only at hst hll HFN
    simp only [evP] at HF
    obtain ⟨len, hlen⟩ : ∃ len, len = ml.length := ⟨_, rfl⟩
    have HLEN := Aside0.mk hlen
    rw [← hlen] at hst hll
    have HST3 : Aside0 (St w F (W1.setCell ⟨b, 34, none⟩ (.slice A2 il c2)) [pt b ({ r with iv := .slice A2 il c2 } : Raw).obj, itemP (.slice A2 il c2) (q.strip n).items, pt qb (.cells #[.int .i64 mn, .slice A3 len c3, .bool mp] 135 (0, 0)), row 94 3 (.slice A3 len c3) len (chCells ml), wrowP r.wv M, qObjs (M.eraseIdx i), pt w.heap.size (.cells #[.int .i64 n] 3 (0, 0))]) := ⟨by
      have h3 : St w F _ _ := ⟨hst, HST2.out.2⟩
      have h4 := h3.pick [3, 4, 0, 1, 5, 2, 6] (by decide)
      unfold chRow at h4
      rw [hlen]
      rw [hlen] at h4
      exact h4⟩
    clear hf hmi hv hmn hx1 hx2 hx3 hxm hst HST2 hlen
    go_wp2_with fail
    generalize W1.setCell _ _ = W2 at HST3 HF y0 ⊢
    refine HF.out.mono ?_
    rintro e W3 ⟨rfl, hw⟩
    have hw := hw.symm
    subst hw
    obtain ⟨_, x1, _⟩ := heap3 (HST3.out.pick [2] (by decide)).heap
    clear d34 f34 HF
    go_wp2_with fail
    go_loopw [8, 34] (fun _ v34 wr => ∃ (k : Nat) (rk : Raw), k ≤ len ∧ v34 = .int .i64 k ∧ Aside0 (St w F wr [pt b rk.obj, itemP rk.iv ((ml.take k).foldl qDo (q.strip n)).items, pt qb (.cells #[.int .i64 mn, .slice A3 len c3, .bool mp] 135 (0, 0)), row 94 3 (.slice A3 len c3) len (chCells ml), wrowP r.wv M, qObjs (M.eraseIdx i), pt w.heap.size (.cells #[.int .i64 n] 3 (0, 0))]) ∧ Aside0 (rk.ok ∧ rk.kvs = r.kvs ∧ rk.wv = r.wv ∧ rk.given = ((ml.take k).foldl qDo (q.strip n)).given ∧ rk.given ≤ q.given + k ∧ q.given ≤ rk.given ∧ ((ml.take k).foldl qDo (q.strip n)).items.length ≤ 1000 + k)) (fun _ v _ => len - (intOf v).toNat)
    case atStart => exact ⟨0, { r with iv := .slice A2 il c2 }, by omega, rfl, HST3, ⟨HQ.out.ok, rfl, rfl, HQ.out.given, by rw [HQ.out.given]; simp, by rw [HQ.out.given]; exact Int.le_refl _, Nat.le_trans (List.length_filter_le _ _) HSM.out.items⟩⟩
    case round =>
      obtain ⟨k, rk, hk, rfl, HST, HR⟩ := hrel
      by_cases hlt : k < len
      · have hlt' : (k : Int) < (len : Int) := by omega
        have hkl : k < ml.length := by rw [← HLEN.out]; exact hlt
        obtain ⟨A3', c3', e3, _, _, hat⟩ := chRow_form (W := wr) (F := New w F) (v := .slice A3 len c3) (l := ml) (by have := (HST.out.pick [3] (by decide)).1.one; rw [HLEN.out] at this ⊢; exact this)
        injection e3 with e3 e4 e5
        clear e4 e5
        subst e3
        obtain ⟨ad, rfl, k0, k1, k2⟩ := hat k hkl
        have hsn := qDo_snoc (q.strip n) ml k hkl
        obtain ⟨cc, hcc⟩ : ∃ cc, cc = ml.getD k ch0 := ⟨_, rfl⟩
        rw [← hcc] at k0 k1 k2 hsn
        have HSN := Aside0.mk hsn
        have HSTB : Aside0 (St w F (wr.alloc (.cells #[.int .i64 cc.kind, .int .i64 cc.key, .int .u64 cc.val] 94)) [pt b rk.obj, itemP rk.iv ((ml.take k).foldl qDo (q.strip n)).items, pt wr.heap.size cc.box, pt qb (.cells #[.int .i64 mn, .slice (some ad) len c3, .bool mp] 135 (0, 0)), row 94 3 (.slice (some ad) len c3) len (chCells ml), wrowP r.wv M, qObjs (M.eraseIdx i), pt w.heap.size (.cells #[.int .i64 n] 3 (0, 0))]) := ⟨(HST.out.alloc _).pick [1, 2, 0, 3, 4, 5, 6, 7] (by decide)⟩
        clear hat hsn hcc
        cases hd : (cc.kind == 3) with
        | true =>
          obtain ⟨qk, hqk⟩ : ∃ qk, qk = (ml.take k).foldl qDo (q.strip n) := ⟨_, rfl⟩
          rw [← hqk] at HR HSN HSTB
          have HQK : Aside0 ((ml.take (k + 1)).foldl qDo (q.strip n) = { qk with given := qk.given + 1, items := qk.items ++ [⟨qk.given + 1, cc.val, 0⟩] }) := ⟨by rw [HSN.out]; unfold qDo; rw [hd]; rfl⟩
          obtain ⟨hok, hkvs, hwv, hgv, hg1, hg2, hil⟩ := HR.out
          have hnum := HSM.out.num
          obtain ⟨A5, c5, e5, _, _, _⟩ := item_form (HSTB.out.pick [1] (by decide)).1.one
          obtain ⟨g, hgg⟩ : ∃ g, g = rk.given := ⟨_, rfl⟩
          obtain ⟨il5, hil5⟩ : ∃ il5, il5 = qk.items.length := ⟨_, rfl⟩
          have hgl : 0 ≤ g := by rw [hgg]; omega
          have hgh : g ≤ 4611686018427390000 := by rw [hgg]; omega
          have HGG := Aside0.mk hgg
          have HE5 := Aside0.mk e5
          have HIL5 := Aside0.mk hil5
          have c36 := (Raw.facts hok HSTB.out.heap).2.2.2.2.1
          have f36 := Raw.thaw HSTB.out.heap 36
          rw [← hgg] at c36
          have HSTG : Aside0 (St w F ((wr.alloc (.cells #[.int .i64 cc.kind, .int .i64 cc.key, .int .u64 cc.val] 94)).setCell ⟨b, 36, none⟩ (.int .i64 (g + 1))) [pt b ({ rk with given := g + 1 } : Raw).obj, itemP rk.iv qk.items, pt wr.heap.size cc.box, pt qb (.cells #[.int .i64 mn, .slice (some ad) len c3, .bool mp] 135 (0, 0)), row 94 3 (.slice (some ad) len c3) len (chCells ml), wrowP r.wv M, qObjs (M.eraseIdx i), pt w.heap.size (.cells #[.int .i64 n] 3 (0, 0))]) := ⟨by
            have h2 := HSTB.out.set 36 (.int .i64 (g + 1))
            rw [Raw.set_given hok] at h2
            exact h2⟩
          have HLE : Aside0 (il5 ≤ 10000000) := ⟨by rw [hil5]; omega⟩
          have HOK := Aside0.mk hok
          clear hok hkvs hwv hgv hg1 hg2 hil hnum hgg hil5 e5
          go_wp2_with fail
          generalize wr.heap.size = b8 at HSTB HSTG ⊢
          generalize World.setCell _ _ _ = W5 at HSTG ⊢
          clear c36 f36 k0 k1 k2
          have HROW : Aside0 (∀ W, Below W5.heap.size W5 W → OwnAt W 0 115 3 (.slice A5 il5 c5) il5 (qiCells qk.items)) := ⟨fun W hW => by
            have := ((HSTG.out.below hW).pick [1] (by decide)).1.one.1
            rw [HE5.out, ← HIL5.out] at this
            exact this⟩
          have hbA := below_alloc (Below.refl W5.heap.size W5) (.cells #[.int .i64 (g + 1), .int .u64 cc.val, .int .i64 0] 115)
          have h34 := (Raw.facts (r := { rk with given := g + 1 }) HOK.out HSTG.out.heap).2.2.1
          have h36 := (Raw.facts (r := { rk with given := g + 1 }) HOK.out HSTG.out.heap).2.2.2.2.1
          have i34 := (Raw.facts (r := { rk with given := g + 1 }) HOK.out (HSTG.out.below hbA).heap).2.2.1
          have i36 := (Raw.facts (r := { rk with given := g + 1 }) HOK.out (HSTG.out.below hbA).heap).2.2.2.2.1
          simp only at h34 i34 h36 i36
          rw [HE5.out, ← HIL5.out] at h34 i34
          obtain ⟨z0, z1, z2, _⟩ := heap3 (HSTG.out.pick [2] (by decide)).heap
          obtain ⟨z0a, z1a, z2a, _⟩ := heap3 ((HSTG.out.below hbA).pick [2] (by decide)).heap
          have HNEW : Aside0 (∀ u ∈ [Value.int .i64 (g + 1), .int .u64 cc.val, .int .i64 0], u.oneCell' = true) := ⟨by simp [Value.oneCell']⟩
          have HFIN : Aside0 (∀ Wm w4 v4, Below W5.heap.size W5 Wm → OwnAt w4 0 115 3 v4 (il5 + 1) (qiCells qk.items ++ [.int .i64 (g + 1), .int .u64 cc.val, .int .i64 0]) → Wm.grownBy w4 (Value.slice A5 il5 c5).ownBlock → (v4.ownBlock = (Value.slice A5 il5 c5).ownBlock ∨ ∃ b, v4.ownBlock = some b ∧ Wm.heap.size ≤ b) →
              (w4.cell? ⟨b, 34, none⟩ = some (.slice A5 il5 c5) ∧ w4.frozen? ⟨b, 34, none⟩ = false) ∧ St w F (w4.setCell ⟨b, 34, none⟩ v4) [pt b ({ rk with given := g + 1, iv := v4 } : Raw).obj, itemP v4 (qk.items ++ [⟨g + 1, cc.val, 0⟩]), pt qb (.cells #[.int .i64 mn, .slice (some ad) len c3, .bool mp] 135 (0, 0)), row 94 3 (.slice (some ad) len c3) len (chCells ml), wrowP r.wv M, qObjs (M.eraseIdx i), pt w.heap.size (.cells #[.int .i64 n] 3 (0, 0))]) := ⟨fun Wm w4 v4 hB ho hg hn => by
            have h1 : St w F Wm (row 115 3 (.slice A5 il5 c5) il5 (qiCells qk.items) :: pt b ({ rk with given := g + 1 } : Raw).obj :: [pt qb (.cells #[.int .i64 mn, .slice (some ad) len c3, .bool mp] 135 (0, 0)), row 94 3 (.slice (some ad) len c3) len (chCells ml), wrowP r.wv M, qObjs (M.eraseIdx i), pt w.heap.size (.cells #[.int .i64 n] 3 (0, 0))]) := by
              have := (HSTG.out.below hB).pick [1, 0, 3, 4, 5, 6, 7] (by decide)
              have e2 : itemP rk.iv qk.items = row 115 3 (.slice A5 il5 c5) il5 (qiCells qk.items) := by unfold itemP; rw [HE5.out, ← HIL5.out]
              rw [← e2]
              exact this
            have h2 := (h1.grown ho hg hn).pick [1, 0, 2, 3, 4, 5, 6] (by decide)
            have d0 := (Raw.facts (r := { rk with given := g + 1 }) HOK.out h2.heap).2.2.1
            simp only at d0
            rw [HE5.out, ← HIL5.out] at d0
            refine ⟨⟨d0, Raw.thaw h2.heap 34⟩, ?_⟩
            have h3 := h2.set 34 v4
            rw [Raw.set_iv (r := { rk with given := g + 1 }) HOK.out] at h3
            have e4 : itemP v4 (qk.items ++ [⟨g + 1, cc.val, 0⟩]) = row 115 3 v4 (il5 + 1) (qiCells qk.items ++ [.int .i64 (g + 1), .int .u64 cc.val, .int .i64 0]) := by
              unfold itemP
              rw [qi_cells_app1, List.length_append, HIL5.out]
              rfl
            rw [e4]
            exact h3⟩
          clear hbA
          go_region_law
            (refine step_app1 rfl (.tmp 52) (.tmp 60) 80 115 (.agg #[.int .i64 0, .int .u64 0, .int .i64 0]) 3 24 (by kernel_rfl) Try.underlying80 rfl (by decide) rfl (.slice A5 il5 c5) il5 (qiCells qk.items) [.int .i64 (g + 1), .int .u64 cc.val, .int .i64 0] W5.heap.size 115 rfl rfl (HROW.out _ (by first | exact below_alloc (Below.refl _ _) _ | exact below_drew (below_alloc (Below.refl _ _) _) | exact below_alloc (below_drew (Below.refl _ _)) _)) (by first | exact heap_alloc_new W5 _ | exact heap_alloc_new W5.drew _) rfl HNEW.out HLE.out (by decide) ?_; intro v4 w4 ho4 hg4 hn4; obtain ⟨A6, c6, rfl, _, _⟩ := row_form ho4; obtain ⟨⟨q0, g0⟩, hst4⟩ := HFIN.out _ _ _ (by first | exact below_alloc (Below.refl _ _) _ | exact below_drew (below_alloc (Below.refl _ _) _) | exact below_alloc (below_drew (Below.refl _ _)) _) ho4 hg4 hn4; have HST6 := Aside0.mk hst4; clear ho4 hg4 hn4 hst4)
          all_goals
            go_wp2_with fail
            refine ⟨⟨k + 1, { rk with given := g + 1, iv := .slice A6 (il5 + 1) c6 }, by omega, by go_num, ⟨?_⟩, ⟨?_⟩⟩, by simp [intOf]; omega⟩
            · rw [HQK.out, ← HR.out.2.2.2.1, ← HGG.out]
              first
                | exact HST6.out
                | exact HST6.out.drew
            · rw [HQK.out]
              obtain ⟨hok, hkvs, hwv, hgv, hg1, hg2, hil⟩ := HR.out
              have hgg := HGG.out
              refine ⟨hok, hkvs, hwv, by show g + 1 = qk.given + 1; rw [HGG.out, hgv], by show g + 1 ≤ _; omega, by show _ ≤ g + 1; omega, ?_⟩
              simp only [List.length_append, List.length_cons, List.length_nil]
              omega
        | false =>
          have HQK : Aside0 ((ml.take (k + 1)).foldl qDo (q.strip n) = (ml.take k).foldl qDo (q.strip n)) := ⟨by rw [HSN.out]; unfold qDo; rw [hd]; rfl⟩
          go_wp2_with fail
          exact ⟨⟨k + 1, rk, by omega, by go_num, ⟨by rw [HQK.out]; exact HSTB.out.pick [0, 1, 3, 4, 5, 6, 7] (by decide)⟩, ⟨by rw [HQK.out]; obtain ⟨hok, hkvs, hwv, hgv, hg1, hg2, hil⟩ := HR.out; exact ⟨hok, hkvs, hwv, hgv, by omega, hg2, by omega⟩⟩⟩, by simp [intOf]; omega⟩
      · obtain rfl : k = len := by omega
        have hall : ml.take k = ml := by rw [HLEN.out]; exact List.take_length
        rw [hall] at HST HR
        obtain ⟨y0, _⟩ := heap1 (HST.out.pick [6] (by decide)).heap
        have HST7 : Aside0 (St w F wr (quL b rk M (ml.foldl qDo (q.strip n)).items ++ [])) := ⟨by
          have h3 := HST.out.pick [2, 3, 5, 0, 1, 4] (by decide)
          have e3 : row 94 3 (.slice A3 k c3) k (chCells ml) = chRow (.slice A3 k c3) ml := by unfold chRow; rw [HLEN.out]
          have h4 := Sep.qw_shut (n := mn) (ch := ml) (p := mp) (q := qb) (lv := .slice A3 k c3) (l := [qObjs (M.eraseIdx i), pt b rk.obj, itemP rk.iv (ml.foldl qDo (q.strip n)).items, wrowP r.wv M]) (W := wr) (F := New w F) (by rw [← e3]; exact h3.1)
          have h5 := Sep.q_put (m := (qb, ⟨mn, ml, mp⟩)) h4 (List.getElem?_eq_some_iff.1 HMI.out).1
          have e6 : M.set i (qb, ⟨mn, ml, mp⟩) = M := by
            apply List.ext_getElem?
            intro j
            rw [List.getElem?_set]
            by_cases hij : i = j
            · subst hij
              rw [if_pos rfl, if_pos (List.getElem?_eq_some_iff.1 HMI.out).1, HMI.out]
            · rw [if_neg hij]
          rw [e6] at h5
          have h6 : St w F wr [qObjs M, pt b rk.obj, itemP rk.iv (ml.foldl qDo (q.strip n)).items, wrowP r.wv M] := ⟨h5, HST.out.2⟩
          rw [List.append_nil]
          unfold quL
          rw [HR.out.2.2.1]
          exact h6.pick [1, 2, 3, 0] (by decide)⟩
        have HG := Aside0.mk (HST7.out.call (fun F1 h1 => qgone_calls wr F1 b rk M _ n HR.out.1 (by have := HM.out; omega) h1))
        clear hall
        go_wp2_with fail
        refine HG.out.mono ?_
        rintro e W8 ⟨l', ⟨wv, rfl, rfl⟩, hst⟩
        have HST8 := Aside0.mk hst
        clear hst
        go_wp2_with fail
        go_ret
        rw [HX.out, HFN.out]
        have h3 := HST8.out
        rw [List.append_nil] at h3
        exact h3.ret ⟨{ rk with wv := wv }, _, rfl, gone_q (q := ml.foldl qDo (q.strip n)) ⟨HR.out.1, by rw [qDo_works]; exact HQ.out.works, HR.out.2.2.2.1⟩ n wv, HR.out.2.1, rfl⟩
theorem qcommit_calls (w : World) (F : Nat → Prop) (b : Nat) (r : Raw) (M : QM) (q : QU) (n : Int) (hq : QuIs r M q) (hs : q.small) (h : Sep (quL b r M q.items) w F) :
    Calls Try.prog 55 #[.pointer (some ⟨b, 34, none⟩), .int .i64 n] w (Ret w F (QuR b r (q.commit n))) := by
  by_cases h1 : n < 1
  · have HST0 : Aside0 (St w F (w.alloc (.cells #[.int .i64 n] 3)) (quL b r M q.items)) := ⟨((St.start h).alloc _).pick [1, 2, 3, 4] (by decide)⟩
    have hb := heap_alloc_new w (.cells #[.int .i64 n] 3)
    obtain ⟨x0, _⟩ := heap1 hb
    have HQ := Aside0.mk hq
    have HX : Aside0 (q.commit n = (q, 1)) := ⟨by unfold QU.commit; rw [if_pos h1]⟩
    have HDC := Aside0.mk (qdecided_bad (w.alloc (.cells #[.int .i64 n] 3)) b n h1)
    clear hq hs h h1 hb
    go_enter Try.func55, Try.ntmps55
    go_wp2_with fail
    refine HDC.out.mono ?_
    rintro e W1 ⟨rfl, hw⟩
    have hw := hw.symm
    subst hw
    go_wp2_with fail
    go_ret
    rw [HX.out]
    exact HST0.out.ret ⟨r, M, rfl, HQ.out, rfl, rfl⟩
  · exact qcommit_good w F b r M q n hq hs h h1
end Go.Proofs.Ytobljkhidgbeoaa.Oct
