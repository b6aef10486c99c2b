
import Derived.Test.YtobljkhidgbeoaaZ17
/- The queue: gone, Backout. -/
namespace Go.Proofs.Ytobljkhidgbeoaa.Oct
open Go.RowKit Go.Proofs.YtobljkhidgbeoaaW.PrintWords Go.Proofs.Ytobljkhidgbeoaa.M
set_option linter.unusedVariables false
set_option linter.unusedSimpArgs false
def QGone (b : Nat) (r : Raw) (M : QM) (items : List QI) (e : Ending) (l' : List Part) : Prop := ∃ wv, e = .returned (.tuple #[]) ∧ l' = quL b { r with wv := wv } M items
set_option maxHeartbeats 1000000 in
theorem qgone_calls (w : World) (F : Nat → Prop) (b : Nat) (r : Raw) (M : QM) (items : List QI) (n : Int) (hr : r.ok) (hM : M.length ≤ 1000000) (h : Sep (quL b r M items) w F) :
    Calls Try.prog 76 #[.pointer (some ⟨b, 34, none⟩), .int .i64 n] w (Ret w F (QGone b r (M.filter fun x => !(x.2.n == n)) items)) := by
  have HR := Aside0.mk hr
  obtain ⟨A, cp, e, _, _, _⟩ := wrow_form (h.pick [2] (by decide)).one
  have HE := Aside0.mk e
  have HST0 : Aside0 (St w F (w.alloc (.cells #[.int .i64 n] 3)) ([row 131 1 (.slice A M.length cp) M.length (qPtrs M), pt w.heap.size (.cells #[.int .i64 n] 3 (0, 0)), qObjs M] ++ [pt b r.obj, itemP r.iv items])) := ⟨by
    have := ((St.start h).alloc (.cells #[.int .i64 n] 3)).pick [3, 0, 4, 1, 2] (by decide)
    have e2 : wrowP r.wv M = row 131 1 (.slice A M.length cp) M.length (qPtrs M) := by unfold wrowP; rw [HE.out]
    rw [← e2]
    exact this⟩
  have HC := Aside0.mk (HST0.out.call (fun F1 h1 => qp_delete _ F1 M A cp n w.heap.size hM h1))
  have c35 := (Raw.facts hr (HST0.out.pick [3] (by decide)).heap).2.2.2.1
  rw [e] at c35
  obtain ⟨m, hm⟩ : ∃ m, m = M.length := ⟨_, rfl⟩
  rw [← hm] at HC c35
  clear h hr hM e HST0 hm
  go_enter Try.func76, Try.ntmps76
  go_wp2_with fail
  refine HC.out.mono ?_
  rintro e W1 ⟨l', ⟨v, rfl, rfl⟩, hst⟩
  obtain ⟨A2, c2, rfl, _, _⟩ := row_form (hst.pick [0] (by decide)).1.one.1
  have HST1 : Aside0 (St w F W1 [pt b r.obj, row 131 1 (.slice A2 (M.filter fun x => !(x.2.n == n)).length c2) (M.filter fun x => !(x.2.n == n)).length (qPtrs (M.filter fun x => !(x.2.n == n))), qObjs M, itemP r.iv items]) := ⟨hst.pick [3, 0, 2, 4] (by decide)⟩
  have d35 := (Raw.facts HR.out HST1.out.heap).2.2.2.1
  have f35 := Raw.thaw HST1.out.heap 35
  have HST2 := Aside0.mk (HST1.out.set 35 (.slice A2 (M.filter fun x => !(x.2.n == n)).length c2))
  clear hst c35 HST1
  go_wp2_with fail
  go_end0
  have h2 := HST2.out
  rw [Raw.set_wv HR.out] at h2
  have h3 := (h2.pick [2, 0, 3, 1] (by decide)).1.q_sub (List.filter_sublist (p := fun x : Nat × QW => !(x.2.n == n)))
  have h4 : St w F _ [qObjs (M.filter fun x => !(x.2.n == n)), pt b ({ r with wv := .slice A2 (M.filter fun x => !(x.2.n == n)).length c2 } : Raw).obj, itemP r.iv items, row 131 1 (.slice A2 (M.filter fun x => !(x.2.n == n)).length c2) (M.filter fun x => !(x.2.n == n)).length (qPtrs (M.filter fun x => !(x.2.n == n)))] := ⟨h3, h2.2⟩
  exact (h4.pick [1, 2, 3, 0] (by decide)).ret ⟨_, rfl, rfl⟩
theorem gone_q {r : Raw} {M : QM} {q : QU} (h : QuIs r M q) (n : Int) (wv : Value) : QuIs { r with wv := wv } (M.filter fun x => !(x.2.n == n)) (q.gone n) :=
  ⟨h.ok, by show _ = q.works.filter _; rw [← h.works, List.filter_map]; rfl, h.given⟩
/-- items that are read -/
def qi0 : QI := ⟨0, 0, 0⟩
theorem item_form {v : Value} {l : List QI} {W : World} {F : Nat → Prop} (h : (itemP v l).P W F) : ∃ A c, v = .slice A l.length c ∧ l.length ≤ c ∧ c ≤ maxLen ∧ ∀ k, k < l.length → ∃ ad, A = some ad ∧ W.cell? (ad.add (k * 3)) = some (.int .i64 (l.getD k qi0).num) ∧ W.cell? ⟨(ad.add (k * 3)).block, (ad.add (k * 3)).off + 1, none⟩ = some (.int .u64 (l.getD k qi0).val) ∧ W.cell? ⟨(ad.add (k * 3)).block, (ad.add (k * 3)).off + 2, none⟩ = some (.int .i64 (l.getD k qi0).work) ∧ W.frozen? ⟨(ad.add (k * 3)).block, (ad.add (k * 3)).off + 2, none⟩ = false := by
  have h0 := h.1
  obtain ⟨A, c, rfl, h1, h2⟩ := row_form h0
  refine ⟨A, c, rfl, h1, h2, fun k hk => ?_⟩
  obtain ⟨g0, g1, g2⟩ := qi_cells_get l k hk
  obtain ⟨ad, e, k0⟩ := OwnAt.cell h0 g0
  obtain ⟨ad1, e1, k1⟩ := OwnAt.cell h0 g1
  obtain ⟨ad2, e2, k2⟩ := OwnAt.cell h0 g2
  rw [e] at e1 e2
  injection e1 with e1
  injection e2 with e2
  subst e1 e2
  refine ⟨ad, e, k0, by rw [add_more]; exact k1, by rw [add_more]; exact k2, ?_⟩
  rcases h0.2 with ⟨e3, h4⟩ | ⟨g, off, cap, cur, e3, _, hh, _⟩
  · omega
  · injection e3 with e3
    rw [e] at e3
    injection e3 with e3
    subst e3
    have hbk : ((⟨g, off, none⟩ : Addr).add (k * 3)).block = g := by unfold Addr.add; split <;> rfl
    rw [hbk]
    simp [World.frozen?, hh]
theorem qi_cells_set (l : List QI) (k : Nat) (x : Int) (hk : k < l.length) : qiCells (l.set k { l.getD k qi0 with work := x }) = (qiCells l).set (k * 3 + 2) (.int .i64 x) := by
  induction l generalizing k with
  | nil => simp at hk
  | cons d l ih =>
    cases k with
    | zero => rfl
    | succ k =>
      have e1 : qiCells ((d :: l).set (k + 1) { (d :: l).getD (k + 1) qi0 with work := x }) = d.cs ++ qiCells (l.set k { l.getD k qi0 with work := x }) := rfl
      have e2 : qiCells (d :: l) = d.cs ++ qiCells l := rfl
      have e3 : d.cs.length = 3 := rfl
      rw [e1, e2, ih k (by simpa using hk), set_append_right' _ _ _ _ (by omega), e3]
      have f : (k + 1) * 3 + 2 - 3 = k * 3 + 2 := by omega
      rw [f]
theorem St.item_set {w W : World} {F : Nat → Prop} {l : List Part} {items : List QI} {ad : Addr} {c k : Nat} {x : Int} (h : St w F W (itemP (.slice (some ad) items.length c) items :: l)) (hk : k < items.length) : St w F (W.setCell ⟨(ad.add (k * 3)).block, (ad.add (k * 3)).off + 2, none⟩ (.int .i64 x)) (itemP (.slice (some ad) items.length c) (items.set k { items.getD k qi0 with work := x }) :: l) := by
  rcases h.1.row_open with ⟨e1, e2, _⟩ | ⟨g, off, cap, cur, e1, h1, h2, h3, h4, h5, hst⟩
  · omega
  injection e1 with e1 _ e2
  injection e1 with e1
  subst e1 e2
  have hs := St.set (w := w) (F := F) ⟨hst, h.2⟩ (off + k * 3 + 2) (.int .i64 x)
  simp only [add_plain']
  unfold itemP
  rw [List.length_set]
  refine ⟨Sep.row_shut hs.1 h1 h2 (by simpa using h3) ?_ ?_, hs.2⟩
  · simp only [Array.toList_setIfInBounds]
    rw [show off + k * 3 + 2 = off + (k * 3 + 2) by omega, window_set, h4, qi_cells_set _ _ _ hk]
  · rw [qi_cells_set _ _ _ hk, List.length_set]; exact h5
def qFree (n : Int) (x : QI) : QI := if x.work == n then { x with work := 0 } else x
set_option maxHeartbeats 2000000 in
theorem qbackout_calls (w : World) (F : Nat → Prop) (b : Nat) (r : Raw) (M : QM) (q : QU) (n : Int) (hq : QuIs r M q) (hs : q.small) (h : Sep (quL b r M q.items) w F) :
    Calls Try.prog 56 #[.pointer (some ⟨b, 34, none⟩), .int .i64 n] w (Ret w F (QuR b r (q.backout n))) := by
  have HST0 := Aside0.mk (St.start h)
  have HQ := Aside0.mk hq
  by_cases h1 : n < 1
  · have HX : Aside0 (q.backout n = (q, 1)) := ⟨by unfold QU.backout; rw [if_pos h1]⟩
    clear hq hs h
    go_enter Try.func56, Try.ntmps56
    go_wp2_with fail
    refine (qdecided_bad w b n h1).mono ?_
    rintro e W1 ⟨rfl, hw⟩
    have hw := hw.symm
    subst hw
    go_wp2_with fail
    go_ret
    rw [HX.out]
    exact HST0.out.ret ⟨r, M, rfl, HQ.out, rfl, rfl⟩
  · have HX : Aside0 (q.backout n = (({ q with items := q.items.map (qFree n) } : QU).gone n, 0)) := ⟨by unfold QU.backout; rw [if_neg h1]; rfl⟩
    obtain ⟨A, c, e, hc1, hc2, _⟩ := item_form (h.pick [1] (by decide)).one
    have HM : Aside0 (M.length ≤ 1000000) := ⟨by have := hs.works; rw [← hq.works] at this; simp at this; omega⟩
    have hil := hs.items
    have c34 := (Raw.facts hq.ok h.heap.1).2.2.1
    rw [e] at c34
    have HE := Aside0.mk e
    obtain ⟨m, hm⟩ : ∃ m, m = q.items.length := ⟨_, rfl⟩
    rw [← hm] at c34 hil hc1
    have HMM := Aside0.mk hm
    unfold maxLen at hc2
    clear hq hs h e hm
    go_enter Try.func56, Try.ntmps56
    go_wp2_with fail
    refine (qdecided_good w b n (by omega)).mono ?_
    rintro e W1 ⟨rfl, hw⟩
    have hw := hw.symm
    subst hw
    go_wp2_with fail
    go_loopw [6, 18] (fun _ v18 wr => ∃ k : Nat, k ≤ m ∧ v18 = .int .i64 k ∧ Aside0 (St w F wr (quL b r M ((q.items.take k).map (qFree n) ++ q.items.drop k)))) (fun _ v _ => m - (intOf v).toNat)
    case atStart => exact ⟨0, by omega, rfl, HST0⟩
    case round =>
      obtain ⟨k, hk, rfl, HST⟩ := hrel
      by_cases hlt : k < m
      · have hlt' : (k : Int) < (m : Int) := by omega
        have hkl : k < q.items.length := by rw [← HMM.out]; exact hlt
        obtain ⟨l, hl⟩ : ∃ l, l = (q.items.take k).map (qFree n) ++ q.items.drop k := ⟨_, rfl⟩
        have hll : l.length = m := by rw [hl, HMM.out]; simp; omega
        have hlk : l.getD k qi0 = q.items.getD k qi0 := by
          rw [hl, List.getD_eq_getElem?_getD, List.getElem?_append_right (by simp; omega)]
          simp [List.getD_eq_getElem?_getD, Nat.min_eq_left (Nat.le_of_lt hkl)]
        have hnext : (q.items.take (k + 1)).map (qFree n) ++ q.items.drop (k + 1) = l.set k (qFree n (q.items.getD k qi0)) := by
          rw [hl, List.take_succ_eq_append_getElem hkl, List.map_append, set_append_right' _ _ _ _ (by simp; omega), List.drop_eq_getElem_cons hkl]
          have e : k - ((q.items.take k).map (qFree n)).length = 0 := by simp; omega
          rw [e, List.set_cons_zero, List.getD_eq_getElem?_getD, List.getElem?_eq_getElem hkl]
          simp
        have HNEXT := Aside0.mk hnext
        rw [← hl] at HST
        have c34 := (Raw.facts HQ.out.ok HST.out.heap).2.2.1
        rw [HE.out, ← HMM.out] at c34
        obtain ⟨A', c', e', _, _, hat⟩ := item_form (HST.out.pick [1] (by decide)).1.one
        rw [HE.out] at e'
        injection e' with e'
        subst e'
        obtain ⟨ad, rfl, k0, k1, k2, f2⟩ := hat k (by rw [hll]; exact hlt)
        rw [hlk] at k0 k1 k2
        obtain ⟨x, hx⟩ : ∃ x, x = q.items.getD k qi0 := ⟨_, rfl⟩
        rw [← hx] at k0 k1 k2 HNEXT hlk
        have HLK := Aside0.mk hlk
        have HLL := Aside0.mk hll
        clear hl hat hnext hx hlk hll
        cases hd : (x.work == n) with
        | true =>
          have HF : Aside0 (qFree n x = { x with work := 0 }) := ⟨by unfold qFree; rw [hd]; rfl⟩
          have HST2 : Aside0 (St w F (wr.setCell ⟨(ad.add (k * 3)).block, (ad.add (k * 3)).off + 2, none⟩ (.int .i64 0)) (quL b r M (l.set k (qFree n x)))) := ⟨by
            have e0 : r.iv = .slice (some ad) l.length c := by rw [HE.out, HLL.out, HMM.out]
            have h0 := HST.out.pick [1, 0, 2, 3] (by decide)
            have h1 : St w F wr (itemP (.slice (some ad) l.length c) l :: [pt b r.obj, wrowP r.wv M, qObjs M]) := by rw [← e0]; exact h0
            have h2 := h1.item_set (x := 0) (k := k) (by rw [HLL.out]; exact hlt)
            rw [HLK.out, ← HF.out, ← e0] at h2
            exact h2.pick [1, 0, 2, 3] (by decide)⟩
          go_wp2_with fail
          exact ⟨⟨k + 1, by omega, by go_num, ⟨by rw [HNEXT.out]; exact HST2.out⟩⟩, by simp [intOf]; omega⟩
        | false =>
          have HF : Aside0 (l.set k (qFree n x) = l) := ⟨by
            have e : qFree n x = x := by unfold qFree; rw [hd]; rfl
            rw [e, ← HLK.out, List.getD_eq_getElem?_getD, List.getElem?_eq_getElem (by rw [HLL.out]; exact hlt)]
            simp⟩
          go_wp2_with fail
          exact ⟨⟨k + 1, by omega, by go_num, ⟨by rw [HNEXT.out, HF.out]; exact HST.out⟩⟩, by simp [intOf]; omega⟩
      · obtain rfl : k = m := by omega
        have hall : (q.items.take k).map (qFree n) ++ q.items.drop k = q.items.map (qFree n) := by rw [HMM.out, List.take_length, List.drop_length, List.append_nil]
        rw [hall] at HST
        have HG := Aside0.mk (St.call (l2 := []) (by rw [List.append_nil]; exact HST.out) (fun F1 h1 => qgone_calls wr F1 b r M _ n HQ.out.ok HM.out h1))
        clear hall
        go_wp2_with fail
        refine HG.out.mono ?_
        rintro e W3 ⟨l', ⟨wv, rfl, rfl⟩, hst⟩
        have HST3 := Aside0.mk hst
        clear hst
        go_wp2_with fail
        go_ret
        rw [HX.out]
        have h3 := HST3.out
        rw [List.append_nil] at h3
        exact h3.ret ⟨{ r with wv := wv }, _, rfl, gone_q (q := { q with items := q.items.map (qFree n) }) ⟨HQ.out.ok, HQ.out.works, HQ.out.given⟩ n wv, rfl, rfl⟩
end Go.Proofs.Ytobljkhidgbeoaa.Oct
