
import Derived.Test.YtobljkhidgbeoaaZ24
/- The queue: Next, Values. -/
namespace Go.Proofs.Ytobljkhidgbeoaa.Oct
open Go.RowKit Go.Proofs.YtobljkhidgbeoaaW.PrintWords Go.Proofs.Ytobljkhidgbeoaa.M
set_option linter.unusedVariables false
set_option linter.unusedSimpArgs false
def qVals (l : List QI) : List Value := l.map fun x => .int .u64 x.val
def QVals (b : Nat) (r : Raw) (M : QM) (q : QU) (e : Ending) (l' : List Part) : Prop := ∃ v, e = .returned v ∧ l' = row 71 1 v q.items.length (qVals q.items) :: quL b r M q.items
set_option maxRecDepth 100000 in
set_option maxHeartbeats 8000000 in
theorem qvalues_calls (w : World) (F : Nat → Prop) (b : Nat) (r : Raw) (M : QM) (q : QU) (hq : QuIs r M q) (hs : q.small) (h : Sep (quL b r M q.items) w F) :
    Calls Try.prog 25 #[.pointer (some ⟨b, 34, none⟩)] w (Ret w F (QVals b r M q)) := by
  have HST0 := Aside0.mk (St.start h)
  have HQ := Aside0.mk hq
  obtain ⟨A, c, e, _, _, _⟩ := item_form (h.pick [1] (by decide)).one
  have HE := Aside0.mk e
  have c34 := (Raw.facts hq.ok h.heap.1).2.2.1
  rw [e] at c34
  have hil := hs.items
  obtain ⟨m, hm⟩ : ∃ m, m = q.items.length := ⟨_, rfl⟩
  rw [← hm] at c34 hil
  have HM := Aside0.mk hm
  clear hq hs h e hm
  go_enter Try.func25, Try.ntmps25
  go_wp2_with fail
  clear c34
  go_loopw [3, 13] (fun v3 v13 wr => ∃ k : Nat, k ≤ m ∧ v13 = .int .i64 k ∧ Aside0 (St w F wr (row 71 1 v3 k (qVals (q.items.take k)) :: quL b r M q.items))) (fun _ v _ => m - (intOf v).toNat)
  case atStart => exact ⟨0, by omega, rfl, ⟨HST0.out.free (row_nil _ _ _ _)⟩⟩
  case round =>
    obtain ⟨k, hk, rfl, HST⟩ := hrel
    by_cases hlt : k < m
    · have hlt' : (k : Int) < (m : Int) := by omega
      have hkl : k < q.items.length := by rw [← HM.out]; exact hlt
      obtain ⟨ad, ha, i0, i1, i2, _⟩ := item_at (HST.out.pick [2] (by decide)).1.one HE.out k hkl
      have hnext : qVals (q.items.take (k + 1)) = qVals (q.items.take k) ++ [.int .u64 (q.items.getD k qi0).val] := by
        unfold qVals
        rw [List.take_succ_eq_append_getElem hkl, List.map_append, List.getD_eq_getElem?_getD, List.getElem?_eq_getElem hkl]
        rfl
      subst ha
      obtain ⟨x, hx⟩ : ∃ x, x = q.items.getD k qi0 := ⟨_, rfl⟩
      rw [← hx] at i0 i1 i2 hnext
      have HNX := Aside0.mk hnext
      clear hx hnext hkl
      obtain ⟨A3, c3, rfl, _, _⟩ := row_form (HST.out.pick [0] (by decide)).1.one.1
      have HST2 : Aside0 (St w F ((wr.alloc (.cells #[.int .i64 x.num, .int .u64 x.val, .int .i64 x.work] 115)).alloc (.cells #[.int .u64 x.val] 71)) (row 71 1 (.slice A3 k c3) k (qVals (q.items.take k)) :: quL b r M q.items)) := ⟨((HST.out.alloc _).alloc _).pick [2, 3, 4, 5, 6] (by decide)⟩
      have HOW := Aside0.mk (HST2.out.pick [0] (by decide)).1.one.1
      have HB2 : Aside0 (((wr.alloc (.cells #[.int .i64 x.num, .int .u64 x.val, .int .i64 x.work] 115)).alloc (.cells #[.int .u64 x.val] 71)).heap[wr.heap.size + 1]? = some (.cells [Value.int .u64 x.val].toArray 71 (0, 0))) := ⟨heap_alloc_new' _ _ _ (by simp)⟩
      have HLK : Aside0 (k ≤ 10000000) := ⟨by omega⟩
      obtain ⟨x0, x1, x2, _⟩ := heap3 (heap_alloc_new wr (.cells #[.int .i64 x.num, .int .u64 x.val, .int .i64 x.work] 115))
      go_wp2_with ((with_reducible refine gate_dst (N := 21) rfl ?_); at_builtin; have hone : ∀ u ∈ [Value.int .u64 x.val], u.oneCell' = true := (by intro u hu; obtain rfl := List.mem_singleton.1 hu; rfl); refine wp_app1 rfl (.tmp 17) (.tmp 20) 34 71 (.int .u64 0) 1 8 (by kernel_rfl) Try.underlying34 rfl (by decide) rfl (.slice A3 k c3) k (qVals (q.items.take k)) [.int .u64 x.val] _ 71 rfl rfl HOW.out HB2.out rfl hone HLK.out (by decide) ?_; intro v4 w4 ho4 hg4 hn4; have HST4 := Aside0.mk (HST2.out.grown ho4 hg4 hn4); clear ho4 hg4 hn4)
      exact ⟨⟨k + 1, by omega, by go_num, ⟨by rw [HNX.out]; exact HST4.out⟩⟩, by simp [intOf]; omega⟩
    · obtain rfl : k = m := by omega
      have hall : q.items.take k = q.items := by rw [HM.out, List.take_length]
      rw [hall, HM.out] at HST
      clear hall
      go_wp2_with fail
      go_ret
      exact HST.out.ret ⟨_, rfl, rfl⟩
end Go.Proofs.Ytobljkhidgbeoaa.Oct
/- The resource in memory; fit. -/
namespace Go.Proofs.Ytobljkhidgbeoaa.Oct
open Go.RowKit Go.Proofs.YtobljkhidgbeoaaW.PrintWords Go.Proofs.Ytobljkhidgbeoaa.M
set_option linter.unusedVariables false
set_option linter.unusedSimpArgs false
def preP (v : Value) (L : List (Int × Bool)) : Part := mapP ekI evB I64 v L
theorem p_look {v : Value} {L : List (Int × Bool)} {W : World} {F : Nat → Prop} (h : (preP v L).P W F) {n : Int} (hn : I64 n) : (Instr.lookup 84 v (.int .i64 n) false).run Try.prog W = .ok (.bool ((look L n).getD false)) W := by
  have := lookup_run keyI h Try.underlying84 (zeroB W) false hn
  rw [show ekI n = .int .i64 n from rfl] at this
  rw [this]
  cases look L n <;> rfl
/-- all parts of a resource -/
def rsL (b : Nat) (r : Raw) (K : KM) (Q : QM) (s : RS) : List Part := [pt b r.obj, wmapP r.wm (ptrs K), objsP kwP K, lockP r.lm s.kv.locks, itemP r.iv s.qu.items, wrowP r.wv Q, qObjs Q, preP r.p0 s.p0, preP r.p1 s.p1]
structure RsIs (r : Raw) (K : KM) (Q : QM) (s : RS) : Prop where
  kv : KvIs r K s.kv
  qu : QuIs r Q s.qu
set_option maxHeartbeats 2000000 in
theorem rfit_calls (w : World) (F : Nat → Prop) (b : Nat) (r : Raw) (K : KM) (Q : QM) (s : RS) (n : Int) (hs : RsIs r K Q s) (h : Sep (rsL b r K Q s) w F) (hn : I64 n) :
    Calls Try.prog 47 #[.pointer (some ⟨b, 0, none⟩), .int .i64 n] w fun e w' => e = .returned (.int .i64 (s.fit n)) ∧ w' = w := by
  by_cases h1 : n < 1
  · have HX : Aside0 (s.fit n = 1) := ⟨by unfold RS.fit; rw [if_pos h1]⟩
    clear hs h
    go_enter Try.func47, Try.ntmps47
    go_wp2_with fail
    go_ret
    rw [HX.out]
    exact ⟨rfl, rfl⟩
  · obtain ⟨_, _, _, _, _, c37, c38⟩ := Raw.facts hs.kv.ok h.heap.1
    have l0 := p_look (h.pick [7] (by decide)).one hn
    have l1 := p_look (h.pick [8] (by decide)).one hn
    have HX : Aside0 (s.fit n = if (look s.p0 n).getD false || (look s.p1 n).getD false then 7 else 0) := ⟨by unfold RS.fit; rw [if_neg h1]⟩
    generalize (look s.p0 n).getD false = x0 at l0 HX
    generalize (look s.p1 n).getD false = x1 at l1 HX
    clear hs h
    go_enter Try.func47, Try.ntmps47
    cases x0 with
    | true =>
      go_wp2_with fail
      go_ret
      rw [HX.out]
      exact ⟨rfl, rfl⟩
    | false =>
      cases x1 with
      | true =>
        go_wp2_with fail
        go_ret
        rw [HX.out]
        exact ⟨rfl, rfl⟩
      | false =>
        go_wp2_with fail
        go_ret
        rw [HX.out]
        exact ⟨rfl, rfl⟩
end Go.Proofs.Ytobljkhidgbeoaa.Oct
/- The resource: Put, Del, Push. -/
namespace Go.Proofs.Ytobljkhidgbeoaa.Oct
open Go.RowKit Go.Proofs.YtobljkhidgbeoaaW.PrintWords Go.Proofs.Ytobljkhidgbeoaa.M
set_option linter.unusedVariables false
set_option linter.unusedSimpArgs false
/-- what lies beside the keys -/
def rsT (r : Raw) (Q : QM) (s : RS) : List Part := [itemP r.iv s.qu.items, wrowP r.wv Q, qObjs Q, preP r.p0 s.p0, preP r.p1 s.p1]
theorem rs_kv {w W : World} {F : Nat → Prop} {b : Nat} {r r' : Raw} {K K' : KM} {Q : QM} {s : RS} {x : KV} (hs : RsIs r K Q s) (hk : KvIs r' K' x) (hr : r'.rest = r.rest) (h : St w F W (kvL b r' K' x.locks ++ rsT r Q s)) :
    RsIs r' K' Q ⟨x, s.qu, s.p0, s.p1⟩ ∧ St w F W (rsL b r' K' Q ⟨x, s.qu, s.p0, s.p1⟩) := by
  unfold Raw.rest at hr
  injection hr with e1 hr
  injection hr with e2 hr
  injection hr with e3 hr
  injection hr with e4 e5
  refine ⟨⟨hk, ⟨hk.ok, hs.qu.works, by rw [e3]; exact hs.qu.given⟩⟩, ?_⟩
  unfold rsL
  rw [e1, e2, e4, e5]
  exact h
/-- what lies beside the queue -/
def rsU (r : Raw) (K : KM) (s : RS) : List Part := [wmapP r.wm (ptrs K), objsP kwP K, lockP r.lm s.kv.locks, preP r.p0 s.p0, preP r.p1 s.p1]
theorem rs_qu {w W : World} {F : Nat → Prop} {b : Nat} {r r' : Raw} {K : KM} {Q Q' : QM} {s : RS} {y : QU} (hs : RsIs r K Q s) (hk : QuIs r' Q' y) (hr : r'.kvs = r.kvs) (h : St w F W (quL b r' Q' y.items ++ rsU r K s)) :
    RsIs r' K Q' ⟨s.kv, y, s.p0, s.p1⟩ ∧ St w F W (rsL b r' K Q' ⟨s.kv, y, s.p0, s.p1⟩) := by
  unfold Raw.kvs at hr
  injection hr with e1 hr
  injection hr with e2 hr
  injection hr with e3 hr
  injection hr with e4 hr
  injection hr with e5 e6
  refine ⟨⟨⟨hk.ok, by rw [e1]; exact hs.kv.vals, by rw [e2]; exact hs.kv.there, hs.kv.works, hs.kv.len, hs.kv.good⟩, hk⟩, ?_⟩
  unfold rsL
  rw [e3, e4, e5, e6]
  exact h.pick [0, 4, 5, 6, 1, 2, 3, 7, 8] (by decide)
def RsR (b : Nat) (x : RS × Int) (e : Ending) (l' : List Part) : Prop := ∃ r' K' Q', e = .returned (.int .i64 x.2) ∧ RsIs r' K' Q' x.1 ∧ l' = rsL b r' K' Q' x.1
set_option maxHeartbeats 2000000 in
theorem rsput_calls (w : World) (F : Nat → Prop) (b : Nat) (r : Raw) (K : KM) (Q : QM) (s : RS) (n key val : Int) (hs : RsIs r K Q s) (h : Sep (rsL b r K Q s) w F) (hn : I64 n) (hv : U64 val) :
    Calls Try.prog 28 #[.pointer (some ⟨b, 0, none⟩), .int .i64 n, .int .i64 key, .int .u64 val] w (Ret w F (RsR b (s.change n ⟨1, key, val⟩))) := by
  have HST0 := Aside0.mk (St.start h)
  have HS := Aside0.mk hs
  have HF := Aside0.mk (rfit_calls w F b r K Q s n hs h hn)
  have HP := Aside0.mk (St.call (l1 := kvL b r K s.kv.locks) (l2 := rsT r Q s) HST0.out (fun F1 h1 => kput_calls w F1 b r K s.kv n key val hs.kv h1 hn hv))
  by_cases hf : s.fit n = 0
  · have HX : Aside0 (s.change n ⟨1, key, val⟩ = (⟨(s.kv.change n ⟨1, key, val⟩).1, s.qu, s.p0, s.p1⟩, (s.kv.change n ⟨1, key, val⟩).2)) := ⟨by unfold RS.change; rw [if_neg (by rw [hf]; decide)]⟩
    rw [hf] at HF
    clear hs h hf
    go_enter Try.func28, Try.ntmps28
    go_wp2_with fail
    refine HF.out.mono ?_
    rintro e W1 ⟨rfl, hw⟩
    have hw := hw.symm
    subst hw
    go_wp2_with fail
    refine HP.out.mono ?_
    rintro e W2 ⟨l', ⟨r', K', rfl, h1, h2, rfl⟩, hst⟩
    have HZ := Aside0.mk (rs_kv HS.out h1 h2 hst)
    clear h1 h2 hst
    go_wp2_with fail
    go_ret
    rw [HX.out]
    exact HZ.out.2.ret ⟨r', K', Q, rfl, HZ.out.1, rfl⟩
  · have HX : Aside0 (s.change n ⟨1, key, val⟩ = (s, s.fit n)) := ⟨by unfold RS.change; rw [if_pos hf]⟩
    generalize s.fit n = ec at HF HX hf
    have hne : (ec != 0) = true := bne_iff_ne.2 hf
    clear hs h hf HP
    go_enter Try.func28, Try.ntmps28
    go_wp2_with fail
    refine HF.out.mono ?_
    rintro e W1 ⟨rfl, hw⟩
    have hw := hw.symm
    subst hw
    go_wp2_with fail
    go_ret
    rw [HX.out]
    exact HST0.out.ret ⟨r, K, Q, rfl, HS.out, rfl⟩
set_option maxHeartbeats 2000000 in
theorem rdel_calls (w : World) (F : Nat → Prop) (b : Nat) (r : Raw) (K : KM) (Q : QM) (s : RS) (n key : Int) (hs : RsIs r K Q s) (h : Sep (rsL b r K Q s) w F) (hn : I64 n) :
    Calls Try.prog 29 #[.pointer (some ⟨b, 0, none⟩), .int .i64 n, .int .i64 key] w (Ret w F (RsR b (s.change n ⟨2, key, 0⟩))) := by
  have HST0 := Aside0.mk (St.start h)
  have HS := Aside0.mk hs
  have HF := Aside0.mk (rfit_calls w F b r K Q s n hs h hn)
  have HP := Aside0.mk (St.call (l1 := kvL b r K s.kv.locks) (l2 := rsT r Q s) HST0.out (fun F1 h1 => kdel_calls w F1 b r K s.kv n key hs.kv h1 hn))
  by_cases hf : s.fit n = 0
  · have HX : Aside0 (s.change n ⟨2, key, 0⟩ = (⟨(s.kv.change n ⟨2, key, 0⟩).1, s.qu, s.p0, s.p1⟩, (s.kv.change n ⟨2, key, 0⟩).2)) := ⟨by unfold RS.change; rw [if_neg (by rw [hf]; decide)]⟩
    rw [hf] at HF
    clear hs h hf
    go_enter Try.func29, Try.ntmps29
    go_wp2_with fail
    refine HF.out.mono ?_
    rintro e W1 ⟨rfl, hw⟩
    have hw := hw.symm
    subst hw
    go_wp2_with fail
    refine HP.out.mono ?_
    rintro e W2 ⟨l', ⟨r', K', rfl, h1, h2, rfl⟩, hst⟩
    have HZ := Aside0.mk (rs_kv HS.out h1 h2 hst)
    clear h1 h2 hst
    go_wp2_with fail
    go_ret
    rw [HX.out]
    exact HZ.out.2.ret ⟨r', K', Q, rfl, HZ.out.1, rfl⟩
  · have HX : Aside0 (s.change n ⟨2, key, 0⟩ = (s, s.fit n)) := ⟨by unfold RS.change; rw [if_pos hf]⟩
    generalize s.fit n = ec at HF HX hf
    have hne : (ec != 0) = true := bne_iff_ne.2 hf
    clear hs h hf HP
    go_enter Try.func29, Try.ntmps29
    go_wp2_with fail
    refine HF.out.mono ?_
    rintro e W1 ⟨rfl, hw⟩
    have hw := hw.symm
    subst hw
    go_wp2_with fail
    go_ret
    rw [HX.out]
    exact HST0.out.ret ⟨r, K, Q, rfl, HS.out, rfl⟩
set_option maxHeartbeats 2000000 in
theorem rpush_calls (w : World) (F : Nat → Prop) (b : Nat) (r : Raw) (K : KM) (Q : QM) (s : RS) (n val : Int) (hs : RsIs r K Q s) (h : Sep (rsL b r K Q s) w F) (hn : I64 n) (hsm : s.qu.small) :
    Calls Try.prog 30 #[.pointer (some ⟨b, 0, none⟩), .int .i64 n, .int .u64 val] w (Ret w F (RsR b (s.push n val))) := by
  have HST0 := Aside0.mk (St.start h)
  have HS := Aside0.mk hs
  have HF := Aside0.mk (rfit_calls w F b r K Q s n hs h hn)
  have HP := Aside0.mk (St.call (l1 := quL b r Q s.qu.items) (l2 := rsU r K s) (HST0.out.pick [0, 4, 5, 6, 1, 2, 3, 7, 8] (by decide)) (fun F1 h1 => qput_calls w F1 b r Q s.qu n val hs.qu hsm h1))
  by_cases hf : s.fit n = 0
  · have HX : Aside0 (s.push n val = (⟨s.kv, (s.qu.put n val).1, s.p0, s.p1⟩, (s.qu.put n val).2)) := ⟨by unfold RS.push; rw [if_neg (by rw [hf]; decide)]⟩
    rw [hf] at HF
    clear hs h hf
    go_enter Try.func30, Try.ntmps30
    go_wp2_with fail
    refine HF.out.mono ?_
    rintro e W1 ⟨rfl, hw⟩
    have hw := hw.symm
    subst hw
    go_wp2_with fail
    refine HP.out.mono ?_
    rintro e W2 ⟨l', ⟨r', Q', rfl, h1, h2, rfl⟩, hst⟩
    have HZ := Aside0.mk (rs_qu HS.out h1 h2 hst)
    clear h1 h2 hst
    go_wp2_with fail
    go_ret
    rw [HX.out]
    exact HZ.out.2.ret ⟨r', K, Q', rfl, HZ.out.1, rfl⟩
  · have HX : Aside0 (s.push n val = (s, s.fit n)) := ⟨by unfold RS.push; rw [if_pos hf]⟩
    generalize s.fit n = ec at HF HX hf
    have hne : (ec != 0) = true := bne_iff_ne.2 hf
    clear hs h hf HP
    go_enter Try.func30, Try.ntmps30
    go_wp2_with fail
    refine HF.out.mono ?_
    rintro e W1 ⟨rfl, hw⟩
    have hw := hw.symm
    subst hw
    go_wp2_with fail
    go_ret
    rw [HX.out]
    exact HST0.out.ret ⟨r, K, Q, rfl, HS.out, rfl⟩
end Go.Proofs.Ytobljkhidgbeoaa.Oct
/- The resource: Pop. -/
namespace Go.Proofs.Ytobljkhidgbeoaa.Oct
open Go.RowKit Go.Proofs.YtobljkhidgbeoaaW.PrintWords Go.Proofs.Ytobljkhidgbeoaa.M
set_option linter.unusedVariables false
set_option linter.unusedSimpArgs false
def RsPopR (b : Nat) (x : RS × Int × Int) (e : Ending) (l' : List Part) : Prop := ∃ r' K' Q', e = .returned (.tuple #[.int .u64 x.2.1, .int .i64 x.2.2]) ∧ RsIs r' K' Q' x.1 ∧ l' = rsL b r' K' Q' x.1
set_option maxHeartbeats 2000000 in
theorem rpop_calls (w : World) (F : Nat → Prop) (b : Nat) (r : Raw) (K : KM) (Q : QM) (s : RS) (n : Int) (hs : RsIs r K Q s) (h : Sep (rsL b r K Q s) w F) (hn : I64 n) (hsm : s.qu.small) :
    Calls Try.prog 31 #[.pointer (some ⟨b, 0, none⟩), .int .i64 n] w (Ret w F (RsPopR b (s.pop n))) := by
  have HST0 := Aside0.mk (St.start h)
  have HS := Aside0.mk hs
  have HF := Aside0.mk (rfit_calls w F b r K Q s n hs h hn)
  have HP := Aside0.mk (St.call (l1 := quL b r Q s.qu.items) (l2 := rsU r K s) (HST0.out.pick [0, 4, 5, 6, 1, 2, 3, 7, 8] (by decide)) (fun F1 h1 => qtake_calls w F1 b r Q s.qu n hs.qu hsm h1))
  by_cases hf : s.fit n = 0
  · have HX : Aside0 (s.pop n = (⟨s.kv, (s.qu.take n).1, s.p0, s.p1⟩, (s.qu.take n).2.1, (s.qu.take n).2.2)) := ⟨by unfold RS.pop; rw [if_neg (by rw [hf]; decide)]⟩
    rw [hf] at HF
    clear hs h hf
    go_enter Try.func31, Try.ntmps31
    go_wp2_with fail
    refine HF.out.mono ?_
    rintro e W1 ⟨rfl, hw⟩
    have hw := hw.symm
    subst hw
    go_wp2_with fail
    refine HP.out.mono ?_
    rintro e W2 ⟨l', ⟨r', Q', rfl, h1, h2, rfl⟩, hst⟩
    have HZ := Aside0.mk (rs_qu HS.out h1 h2 hst)
    clear h1 h2 hst
    go_wp2_with fail
    go_ret2
    rw [HX.out]
    exact HZ.out.2.ret ⟨r', K, Q', rfl, HZ.out.1, rfl⟩
  · have HX : Aside0 (s.pop n = (s, 0, s.fit n)) := ⟨by unfold RS.pop; rw [if_pos hf]⟩
    generalize s.fit n = ec at HF HX hf
    have hne : (ec != 0) = true := bne_iff_ne.2 hf
    clear hs h hf HP
    go_enter Try.func31, Try.ntmps31
    go_wp2_with fail
    refine HF.out.mono ?_
    rintro e W1 ⟨rfl, hw⟩
    have hw := hw.symm
    subst hw
    go_wp2_with fail
    go_ret2
    rw [HX.out]
    exact HST0.out.ret ⟨r, K, Q, rfl, HS.out, rfl⟩
end Go.Proofs.Ytobljkhidgbeoaa.Oct
/- The resource: mark. -/
namespace Go.Proofs.Ytobljkhidgbeoaa.Oct
open Go.RowKit Go.Proofs.YtobljkhidgbeoaaW.PrintWords Go.Proofs.Ytobljkhidgbeoaa.M
set_option linter.unusedVariables false
set_option linter.unusedSimpArgs false
def MarkR0 (b : Nat) (r : Raw) (L : List (Int × Bool)) (e : Ending) (l' : List Part) : Prop := ∃ v, e = .returned (.tuple #[]) ∧ l' = [pt b ({ r with p0 := v } : Raw).obj, preP v L]
set_option maxHeartbeats 2000000 in
theorem rmark0_calls (w : World) (F : Nat → Prop) (b : Nat) (r : Raw) (L : List (Int × Bool)) (n : Int) (A : Option Addr) (len cp : Nat) (hr : r.ok) (hn : I64 n) (h : Sep [pt b r.obj, preP r.p0 L] w F) :
    Calls Try.prog 43 #[.pointer (some ⟨b, 0, none⟩), .int .i64 0, .int .i64 n, .slice A len cp] w (Ret w F (MarkR0 b r (if len = 0 then L else put L n true))) := by
  have HR := Aside0.mk hr
  have HN := Aside0.mk hn
  have HST0 := Aside0.mk (St.start h)
  by_cases hl : len = 0
  · rw [if_pos hl]
    clear h hr hn
    subst hl
    go_enter Try.func43, Try.ntmps43
    go_wp2_with fail
    refine bodyPost_ret (results_none rfl _ _ _) rfl ?_
    exact HST0.out.ret ⟨r.p0, rfl, rfl⟩
  rw [if_neg hl]
  have hl2 : ((len : Int) == 0) = false := by simpa using hl
  have cP := (Raw.facts hr h.heap.1).2.2.2.2.2.1
  rcases (h.pick [1, 0] (by decide)).map_open with ⟨e, rfl⟩ | ⟨m, _, _, e, _⟩
  · rw [e] at cP
    have HE := Aside0.mk e
    have HST1 : Aside0 (St w F (w.alloc (.map #[] 0)) [pt b r.obj, preP (.map (some w.heap.size)) []]) := ⟨(St.made ekI evB I64 HST0.out).pick [1, 0] (by decide)⟩
    have dP := (Raw.facts HR.out HST1.out.heap).2.2.2.2.2.1
    rw [e] at dP
    have fP := Raw.thaw HST1.out.heap 37
    have hnil := run_eql_map_nil (P := Try.prog) w 84 _ _ none Try.underlying84
    have hmk := run_makeMap (P := Try.prog) 84 w
    have HST2 : Aside0 (St w F ((w.alloc (.map #[] 0)).setCell ⟨b, 37, none⟩ (.map (some w.heap.size))) [preP (.map (some w.heap.size)) [], pt b ({ r with p0 := .map (some w.heap.size) } : Raw).obj]) := ⟨by
      have := HST1.out.set 37 (.map (some w.heap.size))
      rw [Raw.set_p0 HR.out] at this
      exact this.pick [1, 0] (by decide)⟩
    have eP := (Raw.facts (r := { r with p0 := .map (some w.heap.size) }) HR.out (HST2.out.pick [1] (by decide)).heap).2.2.2.2.2.1
    obtain ⟨W3, hup, hst3⟩ := St.update HST2.out keyI Try.underlying84 HN.out true
    simp only [ekI, evB] at hup
    have HST3 := Aside0.mk (hst3.pick [1, 0] (by decide))
    clear h hr hn e hst3 HST1 HST2 HST0 hl
    go_enter Try.func43, Try.ntmps43
    go_wp2_with fail
    go_end0
    exact HST3.out.ret ⟨.map (some w.heap.size), rfl, rfl⟩
  · rw [e] at cP
    have HE := Aside0.mk e
    have HST1 : Aside0 (St w F w [preP (.map (some m)) L, pt b r.obj]) := ⟨by have := HST0.out.pick [1, 0] (by decide); rw [← e]; exact this⟩
    have hnil := run_eql_map_nil (P := Try.prog) w 84 _ _ (some m) Try.underlying84
    obtain ⟨W3, hup, hst3⟩ := St.update HST1.out keyI Try.underlying84 HN.out true
    simp only [ekI, evB] at hup
    have HST3 := Aside0.mk (hst3.pick [1, 0] (by decide))
    clear h hr hn e hst3 HST1 HST0 hl
    go_enter Try.func43, Try.ntmps43
    go_wp2_with fail
    go_end0
    exact HST3.out.ret ⟨.map (some m), rfl, by rw [← HE.out]; rfl⟩
def MarkR1 (b : Nat) (r : Raw) (L : List (Int × Bool)) (e : Ending) (l' : List Part) : Prop := ∃ v, e = .returned (.tuple #[]) ∧ l' = [pt b ({ r with p1 := v } : Raw).obj, preP v L]
set_option maxHeartbeats 2000000 in
theorem rmark1_calls (w : World) (F : Nat → Prop) (b : Nat) (r : Raw) (L : List (Int × Bool)) (n : Int) (A : Option Addr) (len cp : Nat) (hr : r.ok) (hn : I64 n) (h : Sep [pt b r.obj, preP r.p1 L] w F) :
    Calls Try.prog 43 #[.pointer (some ⟨b, 0, none⟩), .int .i64 1, .int .i64 n, .slice A len cp] w (Ret w F (MarkR1 b r (if len = 0 then L else put L n true))) := by
  have HR := Aside0.mk hr
  have HN := Aside0.mk hn
  have HST0 := Aside0.mk (St.start h)
  by_cases hl : len = 0
  · rw [if_pos hl]
    clear h hr hn
    subst hl
    go_enter Try.func43, Try.ntmps43
    go_wp2_with fail
    refine bodyPost_ret (results_none rfl _ _ _) rfl ?_
    exact HST0.out.ret ⟨r.p1, rfl, rfl⟩
  rw [if_neg hl]
  have hl2 : ((len : Int) == 0) = false := by simpa using hl
  have cP := (Raw.facts hr h.heap.1).2.2.2.2.2.2
  rcases (h.pick [1, 0] (by decide)).map_open with ⟨e, rfl⟩ | ⟨m, _, _, e, _⟩
  · rw [e] at cP
    have HE := Aside0.mk e
    have HST1 : Aside0 (St w F (w.alloc (.map #[] 0)) [pt b r.obj, preP (.map (some w.heap.size)) []]) := ⟨(St.made ekI evB I64 HST0.out).pick [1, 0] (by decide)⟩
    have dP := (Raw.facts HR.out HST1.out.heap).2.2.2.2.2.2
    rw [e] at dP
    have fP := Raw.thaw HST1.out.heap 38
    have hnil := run_eql_map_nil (P := Try.prog) w 84 _ _ none Try.underlying84
    have hmk := run_makeMap (P := Try.prog) 84 w
    have HST2 : Aside0 (St w F ((w.alloc (.map #[] 0)).setCell ⟨b, 38, none⟩ (.map (some w.heap.size))) [preP (.map (some w.heap.size)) [], pt b ({ r with p1 := .map (some w.heap.size) } : Raw).obj]) := ⟨by
      have := HST1.out.set 38 (.map (some w.heap.size))
      rw [Raw.set_p1 HR.out] at this
      exact this.pick [1, 0] (by decide)⟩
    have eP := (Raw.facts (r := { r with p1 := .map (some w.heap.size) }) HR.out (HST2.out.pick [1] (by decide)).heap).2.2.2.2.2.2
    obtain ⟨W3, hup, hst3⟩ := St.update HST2.out keyI Try.underlying84 HN.out true
    simp only [ekI, evB] at hup
    have HST3 := Aside0.mk (hst3.pick [1, 0] (by decide))
    clear h hr hn e hst3 HST1 HST2 HST0 hl
    go_enter Try.func43, Try.ntmps43
    go_wp2_with fail
    go_end0
    exact HST3.out.ret ⟨.map (some w.heap.size), rfl, rfl⟩
  · rw [e] at cP
    have HE := Aside0.mk e
    have HST1 : Aside0 (St w F w [preP (.map (some m)) L, pt b r.obj]) := ⟨by have := HST0.out.pick [1, 0] (by decide); rw [← e]; exact this⟩
    have hnil := run_eql_map_nil (P := Try.prog) w 84 _ _ (some m) Try.underlying84
    obtain ⟨W3, hup, hst3⟩ := St.update HST1.out keyI Try.underlying84 HN.out true
    simp only [ekI, evB] at hup
    have HST3 := Aside0.mk (hst3.pick [1, 0] (by decide))
    clear h hr hn e hst3 HST1 HST0 hl
    go_enter Try.func43, Try.ntmps43
    go_wp2_with fail
    go_end0
    exact HST3.out.ret ⟨.map (some m), rfl, by rw [← HE.out]; rfl⟩
end Go.Proofs.Ytobljkhidgbeoaa.Oct
