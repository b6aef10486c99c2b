import Derived.Deep.RegionHeldLaw
import Derived.StillTailTactics
import Derived.Test.YtobljkhidgbeoaaZ05
/- The table of locks. -/
namespace Go.Proofs.Ytobljkhidgbeoaa.Oct
open Go.RowKit Go.Proofs.YtobljkhidgbeoaaW.PrintWords Go.Proofs.Ytobljkhidgbeoaa.M
set_option linter.unusedVariables false
set_option linter.unusedSimpArgs false
def lockP (lm : Value) (L : Locks) : Part := mapP ekL evB goodL lm L
theorem zeroB (w : World) : (zeroValue 4).run Try.prog w = .ok (.bool false) w := by kernel_rfl
theorem lk_look (L : Locks) (p : Int × Int) (lm : Value) {w W : World} {F : Nat → Prop} {l : List Part} (h : St w F W (lockP lm L :: l)) (hp : goodL p) : (Instr.lookup 75 lm (ekL p) true).run Try.prog W = .ok (.tuple #[.bool ((look L p).getD false), .bool (look L p).isSome]) W := by
  have := St.look h keyL Try.underlying75 (zeroB W) true hp
  rw [this]
  cases look L p <;> rfl
/-- an entry that keeps a lock away -/
def lkBad (owner key : Int) (alone was : Bool) (p : (Int × Int) × Bool) : Bool := p.1.1 == key && (p.1.2 != owner && (p.2 || (alone || was)))
def LkRet (W : World) (F : Nat → Prop) (b : Nat) (r : Raw) (x : Locks × Int) : Ending → World → Prop := Ret W F (fun e l' => ∃ lm, e = .returned (.int .i64 x.2) ∧ l' = [pt b ({ r with lm := lm } : Raw).obj, lockP lm x.1])
theorem left_none {es : Array MapEntry} {seen : Array Nat} (h : (leftOf es seen).size = 0) : ∀ e ∈ es.toList, seen.contains e.born = true := fun e he => by
  have h1 : leftOf es seen = #[] := Array.eq_empty_of_size_eq_zero h
  unfold leftOf at h1
  rw [Array.filter_eq_empty_iff] at h1
  have := h1 e (by simpa using he)
  simpa using this
theorem left_lt {es : Array MapEntry} {seen : Array Nat} {e : MapEntry} (he : e ∈ es.toList) (hs : seen.contains e.born = false) : (leftOf es (seen.push e.born)).size < (leftOf es seen).size := by
  unfold leftOf
  have h := filter_lt (fun x : MapEntry => !seen.contains x.born) (fun x => !(seen.push e.born).contains x.born) (fun x hx => by simp at hx ⊢; exact hx.1) e (by simpa using hs) (by simp) es.toList he
  have e1 : ∀ (p : MapEntry → Bool), (es.filter p).size = (es.toList.filter p).length := fun p => by rw [← Array.length_toList, Array.toList_filter]
  rw [e1, e1]
  exact h
theorem lk_free {L : Locks} {owner key : Int} {alone was : Bool} (h : ∀ p ∈ L, lkBad owner key alone was p = false) : lkBusy L owner key alone was = false := by
  unfold lkBusy
  rw [List.any_eq_false]
  intro p hp
  have := h p hp
  unfold lkBad at this
  rw [this]
  simp
theorem lk_busy {L : Locks} {owner key : Int} {alone was : Bool} {p : (Int × Int) × Bool} (hp : p ∈ L) (h : lkBad owner key alone was p = true) : lkBusy L owner key alone was = true := by
  unfold lkBusy
  rw [List.any_eq_true]
  exact ⟨p, hp, h⟩
set_option maxRecDepth 100000 in
set_option maxHeartbeats 4000000 in
theorem ltake_some (w : World) (F : Nat → Prop) (b : Nat) (r : Raw) (L : Locks) (owner key : Int) (alone : Bool) (hr : r.ok) (ho : I64 owner) (hk : I64 key) (h : Sep [pt b r.obj, lockP r.lm L] w F) (m : Nat) (hm : r.lm = .map (some m)) (hll : L.length ≤ 1000000) :
    Calls Try.prog 60 #[.pointer (some ⟨b, 33, none⟩), .int .i64 owner, .int .i64 key, .bool alone] w (LkRet w F b r (lkTake L owner key alone)) := by
  have HST0 := Aside0.mk (St.start h)
  have HR := Aside0.mk hr
  have HG : Aside0 (goodL (key, owner)) := ⟨⟨hk, ho⟩⟩
  have HE := Aside0.mk hm
  obtain ⟨was, hwas⟩ : ∃ was, was = (look L (key, owner)).getD false := ⟨_, rfl⟩
  obtain ⟨hv, hhv⟩ : ∃ hv, hv = (look L (key, owner)).isSome := ⟨_, rfl⟩
  have HW := Aside0.mk hwas
  have HV := Aside0.mk hhv
  clear h hr ho hk hm
  go_enter Try.func60, Try.ntmps60
  go_wp2_with fail
  have HST1 := Aside0.mk (HST0.out.alloc (.cells #[.int .i64 key, .int .i64 owner] 147))
  generalize w.heap.size = b0 at HST1 ⊢
  generalize w.alloc _ = W1 at HST1 ⊢
  have HST2 : Aside0 (St w F W1 [lockP r.lm L, pt b0 (.cells #[.int .i64 key, .int .i64 owner] 147 (0, 0)), pt b r.obj]) := ⟨HST1.out.pick [2, 0, 1] (by decide)⟩
  have c33 := (Raw.facts HR.out (HST1.out.1.tail).heap.1).2.1
  have hl : ∀ nq, (Instr.lookup 75 r.lm (.agg #[.int .i64 key, .int .i64 owner]) true).run Try.prog (W1.drewN nq) = .ok (.tuple #[.bool was, .bool hv]) (W1.drewN nq) := fun nq => by rw [HW.out, HV.out]; exact lk_look L (key, owner) r.lm (HST2.out.drewN nq) HG.out
  obtain ⟨x0, x1, _, _⟩ := heap2 HST1.out.heap
  clear hwas hhv
  go_quiet (fail)
  have HST3 := Aside0.mk (HST2.out.drewN nq)
  generalize W1.drewN nq = W3 at HST3 ⊢
  clear c33 hl x0 x1 HST2 HST1 HST0
  rcases HST3.out.map_open with ⟨e1, _⟩ | ⟨m', es, clk, e1, hok, hen, hst⟩
  · rw [HE.out] at e1; cases e1
  rw [HE.out] at e1
  injection e1 with e1
  injection e1 with e1
  subst e1
  have HOK := Aside0.mk hok
  have HEN := Aside0.mk hen
  have HST4 : Aside0 (St w F W3 [pt b r.obj, pt m (.map es clk), pt b0 (.cells #[.int .i64 key, .int .i64 owner] 147 (0, 0))]) := ⟨hst.pick [2, 0, 1] (by decide)⟩
  have c33 := (Raw.facts HR.out HST4.out.heap).2.1
  have hrg : (Instr.range 75 r.lm).run Try.prog W3 = .ok (.pointer (some ⟨W3.heap.size, 0, none⟩)) (W3.alloc (.mapIter (some m) clk #[] clk)) := by
    rw [HE.out]; exact run_range_map _ _ _ _ _ _ _ Try.underlying75 (HST4.out.1.tail).heap.1
  clear hok hen hst HST3
  go_wp2_with fail
  have HST5 := Aside0.mk (HST4.out.alloc (.mapIter (some m) clk #[] clk))
  generalize W3.heap.size = r0 at HST5 ⊢
  generalize W3.alloc _ = W5 at HST5 ⊢
  clear c33 hrg
  go_loopw [12] (fun _ wr => ∃ (seen : Array Nat) (c : Nat), clk ≤ c ∧ Aside0 (St w F wr [pt r0 (.mapIter (some m) clk seen c), pt m (.map es clk), pt b0 (.cells #[.int .i64 key, .int .i64 owner] 147 (0, 0)), pt b r.obj]) ∧ Aside0 (∀ e ∈ es.toList, seen.contains e.born = true → ∀ p ∈ L, e.key = ekL p.1 → e.val = evB p.2 → lkBad owner key alone was p = false)) (fun _ wr => (leftOf es (wr.iterSeen r0)).size)
  case atStart => exact ⟨#[], clk, Nat.le_refl _, ⟨HST5.out.pick [0, 2, 3, 1] (by decide)⟩, ⟨fun e _ h => by simp at h⟩⟩
  case round =>
    obtain ⟨seen, c, hc, HS, HD⟩ := hrel
    rcases HS.out.next (P := Try.prog) HOK.out.born hc HOK.out.once 0 with ⟨h0, hrun⟩ | ⟨e, W6, he, hse, hrun, hen, hst⟩
    · have hnb : lkBusy L owner key alone was = false := lk_free (fun p hp => by
        have hp' : (ekL p.1, evB p.2) ∈ es.toList.map (fun e => (e.key, e.val)) := by rw [HEN.out.1]; exact List.mem_map.2 ⟨p, hp, rfl⟩
        obtain ⟨e, he, e1⟩ := List.mem_map.1 hp'
        injection e1 with e1 e2
        exact HD.out e he (left_none h0 e he) p hp e1 e2)
      have HNB := Aside0.mk hnb
      have c33 := (Raw.facts HR.out (HS.out.pick [3, 1] (by decide)).heap).2.1
      rw [HE.out] at c33
      have HST6 : Aside0 (St w F wr [lockP (.map (some m)) L, pt b r.obj]) := ⟨St.map_shut (HS.out.pick [1, 3] (by decide)) HOK.out HEN.out⟩
      have hlen : ∀ ty, (Builtin.len_ #[75] ty #[.map (some m)]).run Try.prog wr = .ok (.int .i64 L.length) wr := fun ty => St.len HST6.out Try.underlying75 ty
      have hnil := run_eql_map_nil (P := Try.prog) wr 75 _ _ (some m) Try.underlying75
      obtain ⟨x0, x1, _, _⟩ := heap2 (HS.out.pick [2] (by decide)).heap
      clear hnb h0 HS HD
      by_cases hfull : hv = false ∧ 64 ≤ L.length
      · obtain ⟨rfl, hl64⟩ := hfull
        have HX : Aside0 (lkTake L owner key alone = (L, 5)) := ⟨by unfold lkTake; rw [← HW.out, if_neg (by rw [HNB.out]; decide), if_pos ⟨HV.out.symm, hl64⟩]⟩
        have h64 : decide ((64 : Int) ≤ (L.length : Int)) = true := by simp; omega
        go_wp2_with fail
        go_ret
        rw [HX.out]
        exact (HST6.out.pick [1, 0] (by decide)).ret ⟨.map (some m), rfl, by rw [← HE.out]; rfl⟩
      · have HX : Aside0 (lkTake L owner key alone = (put L (key, owner) (was || alone), 0)) := ⟨by unfold lkTake; rw [← HW.out, if_neg (by rw [HNB.out]; decide), if_neg (by rw [← HV.out]; exact hfull)]⟩
        obtain ⟨x, hx⟩ : ∃ x, x = (was || alone) := ⟨_, rfl⟩
        rw [← hx] at HX
        obtain ⟨W7, hup, hst7⟩ := St.update HST6.out.drew keyL Try.underlying75 HG.out x
        have HST7 : Aside0 (St w F W7 [pt b r.obj, lockP (.map (some m)) (put L (key, owner) x)]) := ⟨hst7.pick [1, 0] (by decide)⟩
        simp only [ekL, evB] at hup
        clear hst7
        cases hv
        · have h64 : decide ((64 : Int) ≤ (L.length : Int)) = false := by simp; simp at hfull; omega
          clear hfull
          cases was
          all_goals
            simp only [Bool.false_or, Bool.true_or] at hx
            subst hx
            go_wp2_with fail
            go_still_tail 9, (by kernel_rfl)
            go_wp2_with fail
            go_ret
            rw [HX.out]
            exact HST7.out.ret ⟨.map (some m), rfl, by rw [← HE.out]⟩
        · clear hfull hlen
          cases was
          all_goals
            simp only [Bool.false_or, Bool.true_or] at hx
            subst hx
            go_wp2_with fail
            go_still_tail 9, (by kernel_rfl)
            go_wp2_with fail
            go_ret
            rw [HX.out]
            exact HST7.out.ret ⟨.map (some m), rfl, by rw [← HE.out]⟩
    · obtain ⟨⟨⟨kk, oo⟩, a⟩, hp, ek, ev, hg⟩ := HEN.out.mem he
      rw [ek, ev] at hrun hen
      simp only [ekL, evB] at hrun hen
      have HPM := Aside0.mk hp
      have HSE := Aside0.mk hse
      have HEE := Aside0.mk he
      have HEK := Aside0.mk (And.intro ek ev)
      have HST6 := Aside0.mk hst
      clear hst he hse hp ek ev
      by_cases hbad : lkBad owner key alone was ((kk, oo), a) = true
      · have HX : Aside0 (lkTake L owner key alone = (L, 120)) := ⟨by unfold lkTake; rw [← HW.out, if_pos (lk_busy HPM.out hbad)]⟩
        unfold lkBad at hbad
        simp only [Bool.and_eq_true] at hbad
        obtain ⟨hb1, hb2, hb3⟩ := hbad
        obtain rfl : kk = key := by simpa using hb1
        cases a <;> cases alone <;> cases was
        · exact absurd hb3 (by decide)
        all_goals
          clear hb3 hb1
          go_wp2_with fail
          go_ret
          rw [HX.out]
          have hm := St.map_shut ((HST6.out.alloc (.cells #[.int .i64 kk, .int .i64 oo] 147)).pick [2, 4] (by decide)) HOK.out HEN.out
          rw [← HE.out] at hm
          exact (hm.pick [1, 0] (by decide)).ret ⟨r.lm, rfl, rfl⟩
      · have HNB : Aside0 (lkBad owner key alone was ((kk, oo), a) = false) := ⟨by simpa using hbad⟩
        have hn := HNB.out
        unfold lkBad at hn
        simp only [Bool.and_eq_false_iff] at hn
        have HEND : Aside0 (∀ W, St w F W [pt r0 (.mapIter (some m) clk (seen.push e.born) clk), pt m (.map es clk), pt b0 (.cells #[.int .i64 key, .int .i64 owner] 147 (0, 0)), pt b r.obj] → (∃ (seen : Array Nat) (c : Nat), clk ≤ c ∧ Aside0 (St w F W [pt r0 (.mapIter (some m) clk seen c), pt m (.map es clk), pt b0 (.cells #[.int .i64 key, .int .i64 owner] 147 (0, 0)), pt b r.obj]) ∧ Aside0 (∀ e ∈ es.toList, seen.contains e.born = true → ∀ p ∈ L, e.key = ekL p.1 → e.val = evB p.2 → lkBad owner key alone was p = false)) ∧ (leftOf es (W.iterSeen r0)).size < (leftOf es (wr.iterSeen r0)).size) := ⟨fun W hst => by
          refine ⟨⟨seen.push e.born, clk, Nat.le_refl _, ⟨hst⟩, ⟨fun e' he' hs' p hp' ek' ev' => ?_⟩⟩, ?_⟩
          · by_cases hee : seen.contains e'.born = true
            · exact HD.out e' he' hee p hp' ek' ev'
            · have hb : e'.born = e.born := by
                simp at hs' hee
                rcases hs' with h | h
                · exact absurd h hee
                · exact h
              have hsame : e' = e := by
                have h1 := find_born e es.toList HOK.out.once HEE.out
                have h2 := find_born e' es.toList HOK.out.once he'
                rw [hb, h1] at h2
                injection h2 with h2
                exact h2.symm
              subst hsame
              have hpe : p = ((kk, oo), a) := by
                have h1 := HEK.out.1
                have h2 := HEK.out.2
                rw [ek'] at h1
                rw [ev'] at h2
                refine Prod.ext ?_ ?_
                · exact keyL.inj (HEN.out.2.1 p hp') (HEN.out.2.1 _ HPM.out) h1
                · unfold evB at h2
                  injection h2
              rw [hpe]
              exact HNB.out
          · have e1 : W.iterSeen r0 = seen.push e.born := by unfold World.iterSeen; rw [hst.heap]
            have e2 : wr.iterSeen r0 = seen := by unfold World.iterSeen; rw [HS.out.heap]
            rw [e1, e2]
            exact left_lt HEE.out HSE.out⟩
        have HSTB : Aside0 (St w F (W6.alloc (.cells #[.int .i64 kk, .int .i64 oo] 147)) [pt r0 (.mapIter (some m) clk (seen.push e.born) clk), pt m (.map es clk), pt b0 (.cells #[.int .i64 key, .int .i64 owner] 147 (0, 0)), pt b r.obj]) := ⟨(HST6.out.alloc _).pick [1, 2, 3, 4] (by decide)⟩
        clear hbad
        by_cases hkk : kk = key
        · subst hkk
          have hkb : (kk == kk) = true := beq_self_eq_true kk
          by_cases hoo : oo = owner
          · subst hoo
            have hob : (oo != oo) = false := bne_self_eq_false oo
            clear hn
            go_wp2_with fail
            exact HEND.out _ HSTB.out
          · have hob : (oo != owner) = true := bne_iff_ne.2 hoo
            rw [hkb, hob] at hn
            cases a <;> cases alone <;> cases was
            · go_wp2_with fail
              exact HEND.out _ HSTB.out
            all_goals simp at hn
        · have hkb : (kk == key) = false := beq_eq_false_iff_ne.2 hkk
          clear hn
          go_wp2_with fail
          exact HEND.out _ HSTB.out
theorem run_next_none {P : Program} {W : World} {r a b : Nat} {s : Array Nat} (h : W.heap[r]? = some (.mapIter none a s b)) (ty : TypeId) : (Instr.next (.pointer (some ⟨r, 0, none⟩)) false ty).run P W = .ok (.tuple #[.bool false]) W := by
  simp only [Instr.next, getObj, Sem.run_bind, Sem.run, h, Result.andThen]
  rfl
set_option maxRecDepth 100000 in
set_option maxHeartbeats 4000000 in
theorem ltake_none (w : World) (F : Nat → Prop) (b : Nat) (r : Raw) (owner key : Int) (alone : Bool) (hr : r.ok) (ho : I64 owner) (hk : I64 key) (h : Sep [pt b r.obj] w F) (hm : r.lm = .map none) :
    Calls Try.prog 60 #[.pointer (some ⟨b, 33, none⟩), .int .i64 owner, .int .i64 key, .bool alone] w (LkRet w F b r (lkTake [] owner key alone)) := by
  have HST0 := Aside0.mk (St.start h)
  have HR := Aside0.mk hr
  have HG : Aside0 (goodL (key, owner)) := ⟨⟨hk, ho⟩⟩
  have HE := Aside0.mk hm
  have HX : Aside0 (lkTake [] owner key alone = ([((key, owner), alone)], 0)) := ⟨by simp [lkTake, lkBusy, look, put]⟩
  clear h hr ho hk hm
  go_enter Try.func60, Try.ntmps60
  go_wp2_with fail
  have HST1 := Aside0.mk (HST0.out.alloc (.cells #[.int .i64 key, .int .i64 owner] 147))
  generalize w.heap.size = b0 at HST1 ⊢
  generalize w.alloc _ = W1 at HST1 ⊢
  have c33 := (Raw.facts HR.out (HST1.out.1.tail).heap.1).2.1
  rw [HE.out] at c33
  have hl : ∀ nq, (Instr.lookup 75 (.map none) (.agg #[.int .i64 key, .int .i64 owner]) true).run Try.prog (W1.drewN nq) = .ok (.tuple #[.bool false, .bool false]) (W1.drewN nq) := fun nq => lookup_run (F := F) (L := ([] : Locks)) (ev := evB) keyL (.inl ⟨rfl, rfl⟩) Try.underlying75 (zeroB _) true HG.out
  obtain ⟨x0, x1, _, _⟩ := heap2 HST1.out.heap
  go_quiet (fail)
  have HST3 := Aside0.mk (HST1.out.drewN nq)
  generalize W1.drewN nq = W3 at HST3 ⊢
  clear c33 hl x0 x1 HST1 HST0
  have c33 := (Raw.facts HR.out (HST3.out.1.tail).heap.1).2.1
  rw [HE.out] at c33
  have hrg := run_range_nilMap (P := Try.prog) W3 75 _ _ Try.underlying75
  go_wp2_with fail
  have HST5 := Aside0.mk (HST3.out.alloc (.mapIter none 0 #[] 0))
  generalize W3.heap.size = r0 at HST5 ⊢
  generalize W3.alloc _ = W5 at HST5 ⊢
  clear c33 hrg
  go_loopw [12] (fun _ wr => wr = W5) (fun _ wr => 0)
  case atStart => exact rfl
  case round =>
    subst hrel
    have hrun := run_next_none (P := Try.prog) HST5.out.heap 0
    have c33 := (Raw.facts HR.out (HST5.out.pick [2] (by decide)).heap).2.1
    rw [HE.out] at c33
    have HST6 : Aside0 (St w F (wr.alloc (.map #[] 0)) [pt b r.obj, mapP ekL evB goodL (.map (some wr.heap.size)) [], pt b0 (.cells #[.int .i64 key, .int .i64 owner] 147 (0, 0))]) := ⟨(St.made ekL evB goodL HST5.out).pick [3, 0, 2] (by decide)⟩
    have d33 := (Raw.facts HR.out HST6.out.heap).2.1
    rw [HE.out] at d33
    have f33 := Raw.thaw HST6.out.heap 33
    have hlen := fun ty => Maps.len_nil (P := Try.prog) (w := wr) (t := 75) Try.underlying75 ty
    have hnil := run_eql_map_nil (P := Try.prog) wr 75 _ _ none Try.underlying75
    have hmk := run_makeMap (P := Try.prog) 75 wr
    go_wp2_with fail
    generalize wr.heap.size = m at HST6 ⊢
    generalize wr.alloc _ = W6 at HST6 ⊢
    have HST7 : Aside0 (St w F (W6.setCell ⟨b, 33, none⟩ (.map (some m))) [pt b ({ r with lm := .map (some m) } : Raw).obj, lockP (.map (some m)) [], pt b0 (.cells #[.int .i64 key, .int .i64 owner] 147 (0, 0))]) := ⟨by
      have := HST6.out.set 33 (.map (some m))
      rw [Raw.set_lm HR.out] at this
      exact this⟩
    generalize W6.setCell _ _ = W7 at HST7 ⊢
    clear hrun c33 d33 f33 hlen hnil hmk HST6 HST5
    have c33 := (Raw.facts (r := { r with lm := .map (some m) }) HR.out HST7.out.heap).2.1
    obtain ⟨x0, x1, _, _⟩ := heap2 (HST7.out.pick [2] (by decide)).heap
    obtain ⟨W8, hup, hst8⟩ := St.update (HST7.out.pick [1, 0] (by decide)).drew keyL Try.underlying75 HG.out alone
    simp only [ekL, evB] at hup
    have HST8 := Aside0.mk (hst8.pick [1, 0] (by decide))
    clear hst8
    go_still_tail 9, (by kernel_rfl)
    go_wp2_with fail
    go_ret
    rw [HX.out]
    exact HST8.out.ret ⟨.map (some m), rfl, rfl⟩
theorem ltake_calls (w : World) (F : Nat → Prop) (b : Nat) (r : Raw) (L : Locks) (owner key : Int) (alone : Bool) (hr : r.ok) (ho : I64 owner) (hk : I64 key) (h : Sep [pt b r.obj, lockP r.lm L] w F) (hll : L.length ≤ 1000000) :
    Calls Try.prog 60 #[.pointer (some ⟨b, 33, none⟩), .int .i64 owner, .int .i64 key, .bool alone] w (LkRet w F b r (lkTake L owner key alone)) := by
  rcases (h.pick [1, 0] (by decide)).map_open with ⟨e, rfl⟩ | ⟨m, _, _, e, _⟩
  · exact ltake_none w F b r owner key alone hr ho hk (h.pick [0] (by decide)) e
  · exact ltake_some w F b r L owner key alone hr ho hk h m e hll
end Go.Proofs.Ytobljkhidgbeoaa.Oct
