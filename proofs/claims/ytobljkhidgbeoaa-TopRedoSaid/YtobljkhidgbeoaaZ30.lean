
import Derived.Test.YtobljkhidgbeoaaZ29
/- The resource: Image. -/
namespace Go.Proofs.Ytobljkhidgbeoaa.Oct
open Go.RowKit Go.Proofs.YtobljkhidgbeoaaW.PrintWords Go.Proofs.Ytobljkhidgbeoaa.M
set_option linter.unusedVariables false
set_option linter.unusedSimpArgs false
def vRow (v : Value) (l : List QI) : Part := row 71 1 v l.length (qVals l)
def prCells (l : List (Int × Int)) : List Value := l.flatMap fun p => [.int .i64 p.1, .int .u64 p.2]
def prRow (v : Value) (l : List (Int × Int)) : Part := row 92 2 v l.length (prCells l)
theorem prCells_len (l : List (Int × Int)) : (prCells l).length = l.length * 2 := by
  induction l with
  | nil => rfl
  | cons c l ih => show ([_, _] ++ prCells l).length = _; rw [List.length_append, ih]; simp; omega
def imgObj (p i : Value) (n : Int) : Obj := .cells #[p, i, .int .i64 n] 36 (0, 0)
theorem rs_perm (b : Nat) (r : Raw) (K : KM) (Q : QM) (s : RS) : (quL b r Q s.qu.items ++ rsU r K s).Perm (rsL b r K Q s) := by
  have h : ([itemP r.iv s.qu.items, wrowP r.wv Q, qObjs Q] ++ [wmapP r.wm (ptrs K), objsP kwP K, lockP r.lm s.kv.locks]).Perm ([wmapP r.wm (ptrs K), objsP kwP K, lockP r.lm s.kv.locks] ++ [itemP r.iv s.qu.items, wrowP r.wv Q, qObjs Q]) := List.perm_append_comm
  exact (h.append_right [preP r.p0 s.p0, preP r.p1 s.p1]).cons _
theorem rvalues_calls {w W : World} {F : Nat → Prop} {b : Nat} {r : Raw} {K : KM} {Q : QM} {s : RS} {l : List Part} (hs : RsIs r K Q s) (hsm : s.qu.small) (h : St w F W (rsL b r K Q s ++ l)) :
    Calls Try.prog 25 #[.pointer (some ⟨b, 34, none⟩)] W (fun e W' => ∃ A c, e = .returned (.slice A s.qu.items.length c) ∧ St w F W' (rsL b r K Q s ++ (vRow (.slice A s.qu.items.length c) s.qu.items :: l))) := by
  have h1 : St w F W (quL b r Q s.qu.items ++ (rsU r K s ++ l)) := by
    rw [← List.append_assoc]
    exact h.perm ((rs_perm b r K Q s).symm.append_right l)
  refine (h1.call (fun F1 g => qvalues_calls W F1 b r Q s.qu hs.qu hsm g)).mono ?_
  rintro e W' ⟨l', ⟨v, rfl, rfl⟩, hst⟩
  obtain ⟨A, c, rfl, _, _⟩ := row_form (hst.1.head).1
  refine ⟨A, c, rfl, ?_⟩
  have h2 : St w F W' (vRow (.slice A s.qu.items.length c) s.qu.items :: ((quL b r Q s.qu.items ++ rsU r K s) ++ l)) := by
    rw [List.append_assoc]
    exact hst
  have h3 := h2.perm (((rs_perm b r K Q s).append_right l).cons _)
  exact h3.perm List.perm_middle.symm
def KV.pairsTo (s : KV) (k : Nat) : List (Int × Int) := (List.range k).filterMap fun k => if s.there.getD k false then some ((k : Int), s.vals.getD k 0) else none
theorem KV.pairsTo_succ (s : KV) (k : Nat) : s.pairsTo (k + 1) = s.pairsTo k ++ if s.there.getD k false then [((k : Int), s.vals.getD k 0)] else [] := by
  unfold KV.pairsTo
  rw [List.range_succ, List.filterMap_append]
  congr 1
  simp only [List.filterMap_cons, List.filterMap_nil]
  cases s.there.getD k false <;> rfl
theorem KV.pairsTo_len (s : KV) (k : Nat) : (s.pairsTo k).length ≤ k := by
  unfold KV.pairsTo
  exact Nat.le_trans (List.length_filterMap_le _ _) (by simp)
def ImR (b : Nat) (r : Raw) (K : KM) (Q : QM) (s : RS) (e : Ending) (l' : List Part) : Prop := ∃ p i, e = .returned (.agg #[p, i, .int .i64 s.image.next]) ∧ l' = rsL b r K Q s ++ [prRow p s.image.pairs, vRow i s.qu.items]
set_option maxRecDepth 100000 in
set_option maxHeartbeats 8000000 in
theorem rimage_calls (w : World) (F : Nat → Prop) (b : Nat) (r : Raw) (K : KM) (Q : QM) (s : RS) (hs : RsIs r K Q s) (h : Sep (rsL b r K Q s) w F) (hsm : s.qu.small) :
    Calls Try.prog 7 #[.pointer (some ⟨b, 0, none⟩)] w (Ret w F (ImR b r K Q s)) := by
  have HST0 := Aside0.mk (St.start h)
  have HS := Aside0.mk hs
  have HSM := Aside0.mk hsm
  obtain ⟨n, hn⟩ : ∃ n, n = s.qu.items.length := ⟨_, rfl⟩
  obtain ⟨g, hg⟩ : ∃ g, g = r.given := ⟨_, rfl⟩
  have HCN : Aside0 (∀ W, W.heap[b]? = some r.obj → Calls Try.prog 26 #[.pointer (some ⟨b, 34, none⟩)] W fun e w' => e = .returned (.int .i64 (g + 1)) ∧ w' = W) := ⟨fun W hW => by
    rw [hg]
    exact qnext_calls W b r HS.out.qu.ok hW (by rw [HS.out.qu.given]; exact HSM.out.num.2.1) (by rw [HS.out.qu.given]; exact HSM.out.num.2.2)⟩
  have HCV : Aside0 (∀ (l : List Part) (W : World), St w F W (rsL b r K Q s ++ l) → Calls Try.prog 25 #[.pointer (some ⟨b, 34, none⟩)] W (fun e W' => ∃ A c, e = .returned (.slice A n c) ∧ St w F W' (rsL b r K Q s ++ (vRow (.slice A n c) s.qu.items :: l)))) := ⟨fun l W hW => by
    rw [hn]
    exact rvalues_calls HS.out HSM.out hW⟩
  have HN := Aside0.mk hn
  have HG := Aside0.mk hg
  have HST1 : Aside0 (St w F (w.alloc (.cells #[.slice none 0 0, .slice none 0 0, .int .i64 0] 36)) (rsL b r K Q s ++ [pt w.heap.size (imgObj (.slice none 0 0) (.slice none 0 0) 0)])) := ⟨(HST0.out.alloc _).pick [1, 2, 3, 4, 5, 6, 7, 8, 9, 0] (by decide)⟩
  clear hs h hsm hn hg
  go_enter Try.func7, Try.ntmps7
  go_wp2_with fail
  have HSTD : Aside0 (St w F ((w.alloc (.cells #[.slice none 0 0, .slice none 0 0, .int .i64 0] 36)).drew) (rsL b r K Q s ++ [pt w.heap.size (imgObj (.slice none 0 0) (.slice none 0 0) 0)])) := ⟨HST1.out.drew⟩
  generalize w.heap.size = b2 at *
  generalize w.alloc _ = W1 at *
  clear HST1
  have HSTA : Aside0 (St w F (W1.drew.alloc (.cells #[.slice none 0 0, .slice none 0 0, .int .i64 0] 36)) (rsL b r K Q s ++ [pt W1.heap.size (imgObj (.slice none 0 0) (.slice none 0 0) 0), pt b2 (imgObj (.slice none 0 0) (.slice none 0 0) 0)])) := ⟨(HSTD.out.alloc _).pick [1, 2, 3, 4, 5, 6, 7, 8, 9, 0, 10] (by decide)⟩
  have HH1 := Aside0.mk HSTD.out.heap
  have HH2 := Aside0.mk HSTA.out.heap
  go_region_held_law (fun W => True) (exact trivial)
    (first
     | (refine step_call (by rfl) 26 #[.tmp 16] #[83] (by rfl) #[.pointer (some ⟨b, 34, none⟩)] (by rfl) Try.f26 Try.func26 (by kernel_rfl) (by kernel_rfl) ?_; refine (HCN.out _ (by first | exact HH1.out | exact HH2.out | exact (Aside0.out (by assumption)) | exact (heap_alloc_old _ _ (Array.getElem?_eq_some_iff.1 (Aside0.out (by assumption))).1).trans (Aside0.out (by assumption)))).mono ?_; rintro e wn ⟨rfl, rfl⟩; refine ⟨_, rfl, ?_⟩)
     | (refine step_call (by rfl) 25 #[.tmp 12] #[83] (by rfl) #[.pointer (some ⟨b, 34, none⟩)] (by rfl) Try.f25 Try.func25 (by kernel_rfl) (by kernel_rfl) ?_; refine (HCV.out _ _ HSTD.out).mono ?_; rintro e w5 ⟨A5, c5, rfl, hst5⟩; have HST5 := Aside0.mk hst5; have HH5 := Aside0.mk hst5.heap; clear hst5; refine ⟨_, rfl, ?_⟩)
     | (refine step_call (by rfl) 25 #[.tmp 12] #[83] (by rfl) #[.pointer (some ⟨b, 34, none⟩)] (by rfl) Try.f25 Try.func25 (by kernel_rfl) (by kernel_rfl) ?_; refine (HCV.out _ _ HSTA.out).mono ?_; rintro e w5 ⟨A5, c5, rfl, hst5⟩; have HST5 := Aside0.mk hst5; have HH5 := Aside0.mk hst5.heap; obtain ⟨t0, t1, t2, t3, t4, t5⟩ := heap3 (hst5.pick [10] (by decide)).heap; clear hst5; refine ⟨_, rfl, ?_⟩))
  all_goals
    first
      | (show Exit.then _ _ _ _ (World.alloc _ _)
         have HST6 := Aside0.mk ((HST5.out.alloc (.cells #[.slice none 0 0, .slice A5 n c5, .int .i64 (g + 1)] 36)).pick [1, 2, 3, 4, 5, 6, 7, 8, 9, 10, 0, 11] (by decide))
         clear HST5 HH5 HSTD HSTA HH1 HH2
         first
           | generalize wn.heap.size = b3 at HST6 ⊢
           | generalize w5.heap.size = b3 at HST6 ⊢
         generalize World.alloc _ _ = W6 at HST6 ⊢)
      | (have HST6 := Aside0.mk ((((HST5.out.pick [10, 0, 1, 2, 3, 4, 5, 6, 7, 8, 9, 11] (by decide)).set 0 (.slice none 0 0)).set 1 (.slice A5 n c5)).set 2 (.int .i64 (g + 1)))
         replace HST6 := Aside0.mk (HST6.out.pick [1, 2, 3, 4, 5, 6, 7, 8, 9, 10, 0, 11] (by decide))
         clear HST5 HH5 HSTD HSTA HH1 HH2 t0 t1 t2 t3 t4 t5
         generalize W1.heap.size = b3 at HST6 ⊢
         generalize World.setCell _ _ _ = W6 at HST6 ⊢)
  all_goals
    have HST7 : Aside0 (St w F W6 (rsL b r K Q s ++ [vRow (.slice A5 n c5) s.qu.items, pt b3 (imgObj (.slice none 0 0) (.slice A5 n c5) (g + 1)), prRow (.slice none 0 0) (s.kv.pairsTo 0), pt b2 (imgObj (.slice none 0 0) (.slice none 0 0) 0)])) := ⟨((HST6.out.free (A := prRow (.slice none 0 0) (s.kv.pairsTo 0)) (row_nil _ _ _ _)).pick [1, 2, 3, 4, 5, 6, 7, 8, 9, 10, 11, 0, 12] (by decide))⟩
    clear HST6 HCN HCV
    go_wp2_with fail
    go_loopw [19] (fun v19 wr => ∃ (k : Nat) (pv : Value), k ≤ 16 ∧ v19 = .int .i64 k ∧ Aside0 (St w F wr (rsL b r K Q s ++ [vRow (.slice A5 n c5) s.qu.items, pt b3 (imgObj pv (.slice A5 n c5) (g + 1)), prRow pv (s.kv.pairsTo k), pt b2 (imgObj (.slice none 0 0) (.slice none 0 0) 0)]))) (fun v _ => 16 - (intOf v).toNat)
    case atStart => exact ⟨0, _, by omega, rfl, HST7⟩
    case round =>
      obtain ⟨k, pv, hk, rfl, HST⟩ := hrel
      obtain ⟨A6, c6, rfl, _, _⟩ := row_form ((HST.out.1.pick [11] (by decide)).one).1
      obtain ⟨p, hp⟩ : ∃ p, p = (s.kv.pairsTo k).length := ⟨_, rfl⟩
      have HP := Aside0.mk hp
      have hpl : p ≤ 16 := by rw [hp]; exact Nat.le_trans (KV.pairsTo_len s.kv k) hk
      rw [← hp] at HST
      clear hp
      by_cases hlt : k < 16
      · have hlt' : (k : Int) < 16 := by omega
        have HC := Aside0.mk (kvalue_calls wr b r HS.out.kv.ok HST.out.heap k hlt)
        have hsu := KV.pairsTo_succ s.kv k
        rw [HS.out.kv.vals, HS.out.kv.there] at HC
        obtain ⟨x, hx⟩ : ∃ x, x = s.kv.vals.getD k 0 := ⟨_, rfl⟩
        rw [← hx] at HC hsu
        have HSU := Aside0.mk hsu
        clear hx hsu
        go_wp2_with fail
        refine HC.out.mono ?_
        rintro e W2 ⟨rfl, hb2⟩
        have HST2 := Aside0.mk (HST.out.below hb2)
        clear hb2
        cases hth : s.kv.there.getD k false with
        | false =>
          rw [hth] at HC HSU
          clear hth
          go_wp2_with fail
          exact ⟨⟨k + 1, _, by omega, by go_num, ⟨by rw [HSU.out]; simpa using HST2.out⟩⟩, by simp [intOf]; omega⟩
        | true =>
          rw [hth] at HC HSU
          clear hth
          obtain ⟨t0, t1, t2, t3, t4, t5⟩ := heap3 (HST2.out.pick [10] (by decide)).heap
          have HST3 : Aside0 (St w F (W2.alloc (.cells [Value.int .i64 k, .int .u64 x].toArray 92)) (row 92 2 (.slice A6 p c6) p (prCells (s.kv.pairsTo k)) :: [pt W2.heap.size (.cells [Value.int .i64 k, .int .u64 x].toArray 92 (0, 0)), pt b3 (imgObj (.slice A6 p c6) (.slice A5 n c5) (g + 1)), sepP (rsL b r K Q s), vRow (.slice A5 n c5) s.qu.items, pt b2 (imgObj (.slice none 0 0) (.slice none 0 0) 0)])) := ⟨by
            have h1 := (HST2.out.alloc (.cells [Value.int .i64 k, .int .u64 x].toArray 92)).pick [1, 2, 3, 4, 5, 6, 7, 8, 9, 12, 0, 11, 10, 13] (by decide)
            have h2 : St w F _ (sepP (rsL b r K Q s) :: [prRow (.slice A6 p c6) (s.kv.pairsTo k), pt W2.heap.size (.cells [Value.int .i64 k, .int .u64 x].toArray 92 (0, 0)), pt b3 (imgObj (.slice A6 p c6) (.slice A5 n c5) (g + 1)), vRow (.slice A5 n c5) s.qu.items, pt b2 (imgObj (.slice none 0 0) (.slice none 0 0) 0)]) := ⟨Sep.nest h1.1, h1.2⟩
            have h3 := h2.pick [1, 2, 3, 0, 4, 5] (by decide)
            unfold prRow at h3
            rw [← HP.out] at h3
            exact h3⟩
          go_wp2_with ((with_reducible refine gate_dst (N := 37) rfl ?_); at_builtin; have hone : ∀ u ∈ [Value.int .i64 k, .int .u64 x], u.oneCell' = true := (by intro u hu; simp at hu; rcases hu with rfl | rfl <;> rfl); refine wp_app1 rfl (.tmp 32) (.tmp 36) 33 92 (.agg #[.int .i64 0, .int .u64 0]) 2 16 (by kernel_rfl) Try.underlying33 rfl (by decide) rfl (.slice A6 p c6) p (prCells (s.kv.pairsTo k)) [.int .i64 k, .int .u64 x] _ 92 rfl rfl HST3.out.1.head.1 (HST3.out.pick [1] (by decide)).heap rfl hone (by omega) (by decide) ?_; intro v5 w5 ho hg hn; obtain ⟨A8, c8, rfl, _, _⟩ := row_form ho; have HST5 := Aside0.mk ((HST3.out.grown ho hg hn).pick [2, 0, 3, 4, 5] (by decide)); clear ho hg hn; obtain ⟨t0, t1, t2, t3, t4, t5⟩ := heap3 HST5.out.heap)
          have HST6 := Aside0.mk (HST5.out.set 0 (.slice A8 (p + 1) c8))
          refine ⟨⟨k + 1, .slice A8 (p + 1) c8, by omega, by go_num, ⟨?_⟩⟩, by simp [intOf]; omega⟩
          have h4 := HST6.out.pick [2, 3, 0, 1, 4] (by decide)
          have h5 := (show St w F _ (rsL b r K Q s ++ _) from ⟨h4.1.flat, h4.2⟩)
          have hl : (s.kv.pairsTo (k + 1)).length = p + 1 := by rw [HSU.out, HP.out]; simp
          have hc : prCells (s.kv.pairsTo (k + 1)) = prCells (s.kv.pairsTo k) ++ [.int .i64 k, .int .u64 x] := by rw [HSU.out]; simp [prCells]
          unfold prRow
          rw [hl, hc]
          exact h5
      · obtain rfl : k = 16 := by omega
        obtain ⟨t0, t1, t2, t3, t4, t5⟩ := heap3 (HST.out.pick [10] (by decide)).heap
        obtain ⟨y0, y1, y2, y3, y4, y5⟩ := heap3 (HST.out.pick [12] (by decide)).heap
        go_wp2_with fail
        have HST8 := Aside0.mk ((((HST.out.pick [12, 0, 1, 2, 3, 4, 5, 6, 7, 8, 9, 10, 11] (by decide)).set 0 (.slice A6 p c6)).set 1 (.slice A5 n c5)).set 2 (.int .i64 (g + 1)))
        generalize World.setCell _ _ _ = W8 at HST8 ⊢
        clear t0 t1 t2 t3 t4 t5 y0 y1 y2 y3 y4 y5
        obtain ⟨t0, t1, t2, t3, t4, t5⟩ := heap3 (x := .slice A6 p c6) (y := .slice A5 n c5) (z := .int .i64 (g + 1)) HST8.out.heap
        refine bodyPost_ret (v := .agg #[.slice A6 p c6, .slice A5 n c5, .int .i64 (g + 1)]) (by simp [results, Try.results7, go_sem, t0, t1, t2, t3, t4, t5]) rfl ?_
        refine (HST8.out.pick [1, 2, 3, 4, 5, 6, 7, 8, 9, 12, 10] (by decide)).ret ⟨.slice A6 p c6, .slice A5 n c5, ?_, rfl⟩
        rw [HG.out, HS.out.qu.given]
        rfl
end Go.Proofs.Ytobljkhidgbeoaa.Oct
