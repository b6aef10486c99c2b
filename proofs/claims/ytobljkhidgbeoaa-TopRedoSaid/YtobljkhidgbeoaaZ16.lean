
import Derived.Test.YtobljkhidgbeoaaZ15
/- The queue: Put, Prepare. -/
namespace Go.Proofs.Ytobljkhidgbeoaa.Oct
open Go.RowKit Go.Proofs.YtobljkhidgbeoaaW.PrintWords Go.Proofs.Ytobljkhidgbeoaa.M
set_option linter.unusedVariables false
set_option linter.unusedSimpArgs false
def QuR (b : Nat) (r : Raw) (x : QU × Int) (e : Ending) (l' : List Part) : Prop := ∃ r' M', e = .returned (.int .i64 x.2) ∧ QuIs r' M' x.1 ∧ r'.kvs = r.kvs ∧ l' = quL b r' M' x.1.items
set_option maxHeartbeats 1000000 in
theorem qput_calls (w : World) (F : Nat → Prop) (b : Nat) (r : Raw) (M : QM) (q : QU) (n val : Int) (hq : QuIs r M q) (hs : q.small) (h : Sep (quL b r M q.items) w F) :
    Calls Try.prog 50 #[.pointer (some ⟨b, 34, none⟩), .int .i64 n, .int .u64 val] w (Ret w F (QuR b r (q.put n val))) := by
  have HST0 := Aside0.mk (St.start h)
  have HQ := Aside0.mk hq
  have HF := Aside0.mk (qfit_calls w F b r M q n hq hs h)
  by_cases hf : q.fit n = 0
  · have HR := Aside0.mk (qroom_calls w F b r M q hq hs h)
    rw [hf] at HF
    have HX : Aside0 (q.put n val = if q.room < 1 then (q, 5) else (q.note n ⟨3, 0, val⟩, 0)) := ⟨by unfold QU.put; rw [if_neg (by rw [hf]; decide)]⟩
    have HSM := Aside0.mk hs
    clear hq hs h hf
    go_enter Try.func50, Try.ntmps50
    go_wp2_with fail
    refine HF.out.mono ?_
    rintro e W1 ⟨rfl, hw⟩
    have hw := hw.symm
    subst hw
    go_wp2_with fail
    refine HR.out.mono ?_
    rintro e W2 ⟨rfl, hb2⟩
    have HST2 := Aside0.mk (HST0.out.below hb2)
    have HNT := Aside0.mk (St.call (l2 := []) (by rw [List.append_nil]; exact HST2.out) (fun F1 h1 => qnote_calls W2 F1 b r M q n ⟨3, 0, val⟩ HQ.out HSM.out h1))
    clear hb2
    generalize q.room = rm at HX ⊢
    by_cases hr : rm < 1
    · go_wp2_with fail
      go_ret
      rw [HX.out]
      simp only [hr, if_true]
      exact HST2.out.ret ⟨r, M, rfl, HQ.out, rfl, rfl⟩
    · have HRM := Aside0.mk hr
      go_wp2_with fail
      refine HNT.out.mono ?_
      rintro e W3 ⟨l', ⟨r', M', rfl, h1, h2, rfl⟩, hst⟩
      have HE := Aside0.mk (And.intro h1 (And.intro h2 hst))
      clear h1 h2 hst
      go_wp2_with fail
      go_ret
      rw [HX.out, if_neg (by have := HRM.out; omega)]
      obtain ⟨h1, h2, h3⟩ := HE.out
      rw [List.append_nil] at h3
      exact h3.ret ⟨r', M', rfl, h1, h2.1, rfl⟩
  · have HX : Aside0 (q.put n val = (q, q.fit n)) := ⟨by unfold QU.put; rw [if_pos hf]⟩
    generalize q.fit n = ec at HF HX hf
    have hne : (ec != 0) = true := bne_iff_ne.2 hf
    clear hq hs h hf
    go_enter Try.func50, Try.ntmps50
    go_wp2_with fail
    refine HF.out.mono ?_
    rintro e W1 ⟨rfl, hw⟩
    have hw := hw.symm
    subst hw
    go_wp2_with fail
    go_ret
    rw [HX.out]
    exact HST0.out.ret ⟨r, M, rfl, HQ.out, rfl, rfl⟩
theorem qPrep_some {l : List QW} {n : Int} : ∀ {i : Nat} {x : QW}, qFind l n = some i → l[i]? = some x → qPrep l n = l.set i ⟨x.n, x.list, true⟩ := by
  induction l with
  | nil => intro i x h; simp [qFind] at h
  | cons w l ih =>
    intro i x h hx
    unfold qFind at h
    rw [List.findIdx?_cons] at h
    unfold qPrep
    cases hw : w.n == n with
    | true =>
      rw [hw] at h
      obtain rfl : 0 = i := by simpa using h
      obtain rfl : w = x := by simpa using hx
      rfl
    | false =>
      rw [hw] at h
      simp only [Bool.false_eq_true, if_false] at h ⊢
      cases hj : l.findIdx? (fun x => x.n == n) with
      | none => rw [hj] at h; cases h
      | some j =>
        rw [hj] at h
        obtain rfl : j + 1 = i := by simpa using h
        rw [ih (i := j) (x := x) hj (by simpa using hx)]
        rfl
theorem qPrep_none {l : List QW} {n : Int} (h : qFind l n = none) : qPrep l n = l := by
  induction l with
  | nil => rfl
  | cons w l ih =>
    unfold qFind at h
    rw [List.findIdx?_cons] at h
    unfold qPrep
    cases hw : w.n == n with
    | true => rw [hw] at h; cases h
    | false =>
      rw [hw] at h
      simp only [Bool.false_eq_true, if_false] at h ⊢
      have : l.findIdx? (fun x => x.n == n) = none := by
        cases hj : l.findIdx? (fun x => x.n == n) with
        | none => rfl
        | some j => rw [hj] at h; cases h
      rw [ih this]
def QPrepR (b : Nat) (r : Raw) (x : QU × List Ch × Int) (e : Ending) (l' : List Part) : Prop := ∃ v r' M', e = .returned (.tuple #[v, .int .i64 x.2.2]) ∧ QuIs r' M' x.1 ∧ r'.kvs = r.kvs ∧ l' = chRow v x.2.1 :: quL b r' M' x.1.items
set_option maxHeartbeats 2000000 in
theorem qprepare_calls (w : World) (F : Nat → Prop) (b : Nat) (r : Raw) (M : QM) (q : QU) (n : Int) (hq : QuIs r M q) (hs : q.small) (h : Sep (quL b r M q.items) w F) :
    Calls Try.prog 53 #[.pointer (some ⟨b, 34, none⟩), .int .i64 n] w (Ret w F (QPrepR b r (q.prepare n))) := by
  have HST0 := Aside0.mk (St.start h)
  have HQ := Aside0.mk hq
  have HF := Aside0.mk (qfit_calls w F b r M q n hq hs h)
  have HNIL : Aside0 (∀ W, (chRow (.slice none 0 0) []).P W (fun _ => False)) := ⟨fun W => row_nil W _ _ _⟩
  by_cases hf : q.fit n = 0
  · rw [hf] at HF
    have hM : M.length ≤ 1000 := by have := hs.works; rw [← hq.works] at this; simpa using this
    have HFD := Aside0.mk (qfind_calls w F b r M q.items n hq.ok h hM)
    cases hfi : qFind (M.map (·.2)) n with
    | none =>
      have HX : Aside0 (q.prepare n = (q, [], 0)) := ⟨by unfold QU.prepare; rw [if_neg (by rw [hf]; decide), find_none (by rw [← hq.works]; exact hfi)]⟩
      rw [fVal_none hfi] at HFD
      clear hq hs h hf hfi hM
      go_enter Try.func53, Try.ntmps53
      go_wp2_with fail
      refine HF.out.mono ?_
      rintro e W1 ⟨rfl, hw⟩
      have hw := hw.symm
      subst hw
      go_wp2_with fail
      refine HFD.out.mono ?_
      rintro e W1 ⟨rfl, hw⟩
      have hw := hw.symm
      subst hw
      go_wp2_with fail
      go_ret2
      rw [HX.out]
      exact (HST0.out.free (HNIL.out _)).ret ⟨_, r, M, rfl, HQ.out, rfl, rfl⟩
    | some i =>
      obtain ⟨m, hm, hv, hmn⟩ := fVal_some hfi
      obtain ⟨x, hx1, hx2, hx3⟩ := find_some (q := q) (n := n) (i := i) (by rw [← hq.works]; exact hfi)
      have hxm : x = m.2 := by
        rw [← hq.works, List.getElem?_map, hm] at hx1
        injection hx1 with hx1
        exact hx1.symm
      have hwi : q.works[i]? = some m.2 := by rw [hx1, hxm]
      have HX : Aside0 (q.prepare n = ({ q with works := q.works.set i ⟨m.2.n, m.2.list, true⟩ }, m.2.list, 0)) := ⟨by unfold QU.prepare; rw [if_neg (by rw [hf]; decide), hx3, hxm, qPrep_some (by rw [← hq.works]; exact hfi) hwi]⟩
      have hll : m.2.list.length ≤ 1000 := hs.lists m.2 (List.mem_of_getElem? hwi)
      rw [hv] at HFD
      have HMI := Aside0.mk hm
      obtain ⟨lv, hst⟩ := ((HST0.out.1.pick [3, 0, 1, 2] (by decide)).q_take hm).qw_open
      obtain ⟨A, cp, rfl, _, _, hat⟩ := chRow_form (hst.pick [1] (by decide)).one
      have HST1 : Aside0 (St w F w [pt m.1 (.cells #[.int .i64 m.2.n, .slice A m.2.list.length cp, .bool m.2.prep] 135 (0, 0)), chRow (.slice A m.2.list.length cp) m.2.list, qObjs (M.eraseIdx i), pt b r.obj, itemP r.iv q.items, wrowP r.wv M]) := ⟨hst, HST0.out.2⟩
      have HST2 := Aside0.mk (HST1.out.set 2 (.bool true))
      obtain ⟨_, x1, x2, _, f1, f2⟩ := heap3 HST1.out.heap
      obtain ⟨_, y1, _⟩ := heap3 HST2.out.heap
      have hatx : ChAt (w.setCell ⟨m.1, 2, none⟩ (.bool true)) A m.2.list := by
        obtain ⟨A', c', e1, _, _, h'⟩ := chRow_form (HST2.out.pick [1] (by decide)).1.one
        injection e1 with e1
        rw [e1]
        exact h'
      have HC := Aside0.mk (chClone_calls (w.setCell ⟨m.1, 2, none⟩ (.bool true)) m.2.list A cp hatx (by omega))
      have HCLOSE : Aside0 (∀ W v, St w F W (chRow v m.2.list :: pt m.1 (.cells #[.int .i64 m.2.n, .slice A m.2.list.length cp, .bool true] 135 (0, 0)) :: [chRow (.slice A m.2.list.length cp) m.2.list, qObjs (M.eraseIdx i), pt b r.obj, itemP r.iv q.items, wrowP r.wv M]) → Ret w F (QPrepR b r (q.prepare n)) (.returned (.tuple #[v, .int .i64 0])) W) := ⟨fun W v hst => by
        rw [HX.out]
        have h2 := Sep.qw_shut (hst.pick [1, 2, 3, 4, 5, 6, 0] (by decide)).1
        have h3 : Sep (qObjs (M.set i (m.1, ⟨m.2.n, m.2.list, true⟩)) :: [pt b r.obj, itemP r.iv q.items, wrowP r.wv M, chRow v m.2.list]) W (New w F) := Sep.q_put (m := (m.1, ⟨m.2.n, m.2.list, true⟩)) h2 (List.getElem?_eq_some_iff.1 HMI.out).1
        have h4 : St w F W (qObjs (M.set i (m.1, ⟨m.2.n, m.2.list, true⟩)) :: [pt b r.obj, itemP r.iv q.items, wrowP r.wv M, chRow v m.2.list]) := ⟨h3, hst.2⟩
        refine (h4.pick [4, 1, 2, 3, 0] (by decide)).ret ⟨v, r, M.set i (m.1, ⟨m.2.n, m.2.list, true⟩), rfl, ⟨HQ.out.ok, ?_, HQ.out.given⟩, rfl, ?_⟩
        · rw [List.map_set, HQ.out.works]
        · unfold quL
          rw [wrow_set _ HMI.out]
          rfl⟩
      obtain ⟨qb, mw⟩ := m
      obtain ⟨mn, ml, mp⟩ := mw
      simp only [evP] at HFD x1 x2 f1 f2 y1 HC HCLOSE HST2
      obtain ⟨len, hlen⟩ : ∃ len, len = ml.length := ⟨_, rfl⟩
      rw [← hlen] at x1 y1 HC HCLOSE HST2
      have HLEN := Aside0.mk hlen
      clear hq hs h hf hfi hM hm hv hmn hx1 hx2 hx3 hxm hwi hll hst hat hatx HX HMI HST1 hlen
      go_enter Try.func53, Try.ntmps53
      go_wp2_with fail
      refine HF.out.mono ?_
      rintro e W1 ⟨rfl, hw⟩
      have hw := hw.symm
      subst hw
      go_wp2_with fail
      refine HFD.out.mono ?_
      rintro e W1 ⟨rfl, hw⟩
      have hw := hw.symm
      subst hw
      go_wp2_with fail
      refine HC.out.mono ?_
      rintro e W2 ⟨v2, rfl, ho2, hn2, hb2⟩
      obtain ⟨A2, c2, rfl, _, _⟩ := row_form ho2
      have HST4 := Aside0.mk (HST2.out.new_row hb2 ho2 hn2)
      clear ho2 hn2 hb2
      go_wp2_with fail
      go_ret2
      exact HCLOSE.out _ _ HST4.out
  · have HX : Aside0 (q.prepare n = (q, [], q.fit n)) := ⟨by unfold QU.prepare; rw [if_pos hf]⟩
    generalize q.fit n = ec at HF HX hf
    have hne : (ec != 0) = true := bne_iff_ne.2 hf
    clear hq hs h hf
    go_enter Try.func53, Try.ntmps53
    go_wp2_with fail
    refine HF.out.mono ?_
    rintro e W1 ⟨rfl, hw⟩
    have hw := hw.symm
    subst hw
    go_wp2_with fail
    go_ret2
    rw [HX.out]
    exact (HST0.out.free (HNIL.out _)).ret ⟨_, r, M, rfl, HQ.out, rfl, rfl⟩
end Go.Proofs.Ytobljkhidgbeoaa.Oct
