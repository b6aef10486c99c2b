
import Derived.Test.YtobljkhidgbeoaaZ20
/- The queue: Restore. -/
namespace Go.Proofs.Ytobljkhidgbeoaa.Oct
open Go.RowKit Go.Proofs.YtobljkhidgbeoaaW.PrintWords Go.Proofs.Ytobljkhidgbeoaa.M
set_option linter.unusedVariables false
set_option linter.unusedSimpArgs false
def qNew (n : Int) (l : List Ch) : List QW := if l = [] then [] else [⟨n, l, false⟩]
theorem qNote_new (ws : List QW) (n : Int) (l : List Ch) (c : Ch) (h : qFind ws n = none) : qNote (ws ++ qNew n l) n c = ws ++ qNew n (l ++ [c]) := by
  unfold qNew
  rw [if_neg (by simp : ¬ l ++ [c] = [])]
  split
  · rename_i h0
    rw [h0, List.append_nil, qNote_none h]
    rfl
  · have hf : qFind (ws ++ [⟨n, l, false⟩]) n = some ws.length := by
      unfold qFind at h ⊢
      rw [List.findIdx?_append, h]
      simp
    rw [qNote_some (i := ws.length) (x := ⟨n, l, false⟩) hf (by simp), set_append_right' _ _ _ _ (Nat.le_refl _), Nat.sub_self]
    rfl
/-- what Restore has done, k changes in -/
structure RedoAt (q : QU) (n : Int) (l : List Ch) (k : Nat) (x : QU × Nat) : Prop where
  works : x.1.works = q.works ++ qNew n (l.take k)
  items : x.1.items.length = q.items.length
  given : x.1.given = q.given
  front : x.2 ≤ k
  right : qRight q.items l 0 = qRight q.items (l.drop k) x.2
  is : x = (l.take k).foldl (qRedo n) (q, 0)
theorem RedoAt.next {q : QU} {n : Int} {l : List Ch} {k : Nat} {x : QU × Nat} (h : RedoAt q n l k x) (hk : k < l.length) (hf : qFind q.works n = none) (hr : qRight q.items l 0 = true) :
    ((l.getD k ch0).kind == 4) = true ∧ x.2 < q.items.length ∧ RedoAt q n l (k + 1) (({ x.1 with items := x.1.items.set x.2 { x.1.items.getD x.2 qi0 with work := n } } : QU).note n (l.getD k ch0), x.2 + 1) ∨ ((l.getD k ch0).kind == 4) = false ∧ RedoAt q n l (k + 1) (x.1.note n (l.getD k ch0), x.2) := by
  have hd : l.drop k = l.getD k ch0 :: l.drop (k + 1) := by rw [List.drop_eq_getElem_cons hk, List.getD_eq_getElem?_getD, List.getElem?_eq_getElem hk]; rfl
  have ht : l.take (k + 1) = l.take k ++ [l.getD k ch0] := by rw [List.take_succ_eq_append_getElem hk, List.getD_eq_getElem?_getD, List.getElem?_eq_getElem hk]; rfl
  have hrt := h.right
  rw [hr, hd] at hrt
  generalize l.getD k ch0 = c at hd ht hrt ⊢
  have hnote : ∀ y : QU, y.works = x.1.works → (y.note n c).works = q.works ++ qNew n (l.take (k + 1)) := fun y hy => by
    show qNote y.works n c = _
    rw [hy, h.works, qNote_new _ _ _ _ hf, ht]
  have hfold : (l.take (k + 1)).foldl (qRedo n) (q, 0) = qRedo n x c := by rw [ht, List.foldl_append, ← h.is]; rfl
  cases hp : (c.kind == 3 && c.key == 0) with
  | true =>
    right
    have hk4 : (c.kind == 4) = false := by
      simp only [Bool.and_eq_true, beq_iff_eq] at hp
      rw [hp.1]; rfl
    refine ⟨hk4, hnote x.1 rfl, h.items, h.given, Nat.le_succ_of_le h.front, ?_, ?_⟩
    · rw [h.right, hd, qRight_put hp]
    · rw [hfold]; unfold qRedo; rw [hk4]; rfl
  | false =>
    left
    cases ht2 : (c.kind == 4 && (decide (x.2 < q.items.length) && decide (q.items.getD x.2 ⟨0, 0, 0⟩ = ⟨c.key, c.val, 0⟩))) with
    | false => rw [qRight_bad hp ht2] at hrt; cases hrt
    | true =>
      have ht3 := ht2
      simp only [Bool.and_eq_true, decide_eq_true_eq] at ht3
      refine ⟨ht3.1, ht3.2.1, hnote _ rfl, ?_, h.given, Nat.succ_le_succ h.front, ?_, ?_⟩
      · show (x.1.items.set _ _).length = _
        rw [List.length_set]; exact h.items
      · rw [h.right, hd, qRight_take hp ht2]
      · rw [hfold]; unfold qRedo; rw [ht3.1]; rfl
theorem RedoAt.small {q : QU} {n : Int} {l : List Ch} {k : Nat} {x : QU × Nat} (h : RedoAt q n l k x) (hs : q.small) (hw : q.works.length < 1000) (hl : l.length ≤ 1000) : x.1.small := by
  refine ⟨by rw [h.items]; exact hs.items, ?_, fun y hy => ?_, by rw [h.given]; exact hs.num⟩
  · rw [h.works, List.length_append]
    unfold qNew
    split <;> simp <;> omega
  · rw [h.works] at hy
    rcases List.mem_append.1 hy with hy | hy
    · exact hs.lists y hy
    · unfold qNew at hy
      split at hy
      · cases hy
      · obtain rfl := List.mem_singleton.1 hy
        show (l.take k).length ≤ 1000
        rw [List.length_take]; omega
set_option maxRecDepth 100000 in
set_option maxHeartbeats 8000000 in
theorem qrestore_calls (w : World) (F : Nat → Prop) (b : Nat) (r : Raw) (M : QM) (q : QU) (n : Int) (l : List Ch) (A : Option Addr) (cp : Nat) (hq : QuIs r M q) (hs : q.small) (h : Sep (quL b r M q.items) w F) (hl : ∀ W, Kp w F W → ChAt W A l) (hw : q.works.length < 1000) (hll : l.length ≤ 1000) :
    Calls Try.prog 41 #[.pointer (some ⟨b, 34, none⟩), .int .i64 n, .slice A l.length cp] w (Ret w F (QuR b r (q.restore n l))) := by
  have HST0 := Aside0.mk (St.start h)
  have HQ := Aside0.mk hq
  have HSM := Aside0.mk hs
  have HL := Aside0.mk hl
  by_cases h1 : n < 1
  · have HX : Aside0 (q.restore n l = (q, 1)) := ⟨by unfold QU.restore; rw [if_pos h1]⟩
    clear hq hs h hl
    go_enter Try.func41, Try.ntmps41
    go_wp2_with fail
    refine (qdecided_bad w b n h1).mono ?_
    rintro e W1 ⟨rfl, hw⟩
    have hw := hw.symm
    subst hw
    go_wp2_with fail
    go_ret
    rw [HX.out]
    exact HST0.out.ret ⟨r, M, rfl, HQ.out, rfl, rfl⟩
  · have HRT := Aside0.mk (qright_calls w F b r M q l A cp hq hs h (hl w (Kp.refl _ _)) (by omega))
    have HM : Aside0 (M.length ≤ 1000) := ⟨by have := hs.works; rw [← hq.works] at this; simpa using this⟩
    have HDC := Aside0.mk (qdecided_good w b n h1)
    have HB0 : Aside0 (∀ W, Below w.heap.size w W → St w F W (quL b r M q.items)) := ⟨fun W hW => HST0.out.below hW⟩
    cases hr : q.right l with
    | false =>
      have HX : Aside0 (q.restore n l = (q, 1)) := ⟨by unfold QU.restore; rw [if_neg h1, if_pos hr]⟩
      rw [hr] at HRT
      clear hq hs h hl hr h1
      go_enter Try.func41, Try.ntmps41
      go_wp2_with fail
      refine HDC.out.mono ?_
      rintro e W1 ⟨rfl, hw⟩
      have hw := hw.symm
      subst hw
      go_wp2_with fail
      refine HRT.out.mono ?_
      rintro e W1 ⟨rfl, hb⟩
      have HST1 := Aside0.mk (HB0.out _ hb)
      clear hb
      go_wp2_with fail
      go_ret
      rw [HX.out]
      exact HST1.out.ret ⟨r, M, rfl, HQ.out, rfl, rfl⟩
    | true =>
      rw [hr] at HRT
      have hqr : qRight q.items l 0 = true := by unfold QU.right at hr; simp only [Bool.and_eq_true] at hr; exact hr.1
      have HQR := Aside0.mk hqr
      have HFD : Aside0 (∀ W, Below w.heap.size w W → Calls Try.prog 66 #[.pointer (some ⟨b, 34, none⟩), .int .i64 n] W fun e w' => e = .returned (fVal M n) ∧ w' = W) := ⟨fun W hW => qfind_calls W (New w F) b r M q.items n HQ.out.ok (HB0.out W hW).1 HM.out⟩
      cases hf : qFind (M.map (·.2)) n with
      | some i =>
        obtain ⟨mm, hmi, hv, _⟩ := fVal_some hf
        obtain ⟨x, _, _, hx3⟩ := find_some (q := q) (n := n) (i := i) (by rw [← hq.works]; exact hf)
        have HX : Aside0 (q.restore n l = (q, 7)) := ⟨by unfold QU.restore; rw [if_neg h1, if_neg (by rw [hr]; decide), hx3]; rfl⟩
        rw [hv] at HFD
        simp only [evP] at HFD
        clear hq hs h hl hr h1 hqr hf hmi hv hx3
        go_enter Try.func41, Try.ntmps41
        go_wp2_with fail
        refine HDC.out.mono ?_
        rintro e W1 ⟨rfl, hw⟩
        have hw := hw.symm
        subst hw
        go_wp2_with fail
        refine HRT.out.mono ?_
        rintro e W1 ⟨rfl, hb⟩
        have HB1 := Aside0.mk hb
        clear hb
        go_wp2_with fail
        refine (HFD.out _ HB1.out).mono ?_
        rintro e W2 ⟨rfl, hw⟩
        have hw := hw.symm
        subst hw
        go_wp2_with fail
        go_ret
        rw [HX.out]
        exact (HB0.out _ HB1.out).ret ⟨r, M, rfl, HQ.out, rfl, rfl⟩
      | none =>
        have hfq : qFind q.works n = none := by rw [← hq.works]; exact hf
        have HFQ := Aside0.mk hfq
        have HX : Aside0 (q.restore n l = ({ (l.foldl (qRedo n) (q, 0)).1 with works := qPrep (l.foldl (qRedo n) (q, 0)).1.works n }, 0)) := ⟨by unfold QU.restore; rw [if_neg h1, if_neg (by rw [hr]; decide), find_none hfq]; rfl⟩
        rw [fVal_none hf] at HFD
        obtain ⟨m, hm⟩ : ∃ m, m = l.length := ⟨_, rfl⟩
        have HMM := Aside0.mk hm
        rw [← hm] at HRT ⊢
        have hm2 : m ≤ 1000 := by omega
        have HW1 := Aside0.mk hw
        have HLL := Aside0.mk hll
        clear hq hs h hl hr h1 hqr hf hfq hm hw hll
        go_enter Try.func41, Try.ntmps41
        go_wp2_with fail
        refine HDC.out.mono ?_
        rintro e W1 ⟨rfl, hw⟩
        have hw := hw.symm
        subst hw
        go_wp2_with fail
        refine HRT.out.mono ?_
        rintro e W1 ⟨rfl, hb⟩
        have HB1 := Aside0.mk hb
        clear hb
        go_wp2_with fail
        refine (HFD.out _ HB1.out).mono ?_
        rintro e W2 ⟨rfl, hw⟩
        have hw := hw.symm
        subst hw
        have HST1 := Aside0.mk (HB0.out _ HB1.out)
        clear HRT HFD
        go_wp2_with fail
        go_loopw [8, 10, 28] (fun v8 _ v28 wr => ∃ (k : Nat) (x : QU × Nat) (rk : Raw) (Mk : QM), k ≤ m ∧ v28 = .int .i64 k ∧ v8 = .int .i64 x.2 ∧ x.2 ≤ 1000 ∧ Aside0 (St w F wr (quL b rk Mk x.1.items)) ∧ Aside0 (QuIs rk Mk x.1 ∧ rk.kvs = r.kvs ∧ RedoAt q n l k x)) (fun _ _ v _ => m - (intOf v).toNat)
        case atStart => exact ⟨0, (q, 0), r, M, by omega, rfl, rfl, by simp, HST1, ⟨HQ.out, rfl, ⟨by simp [qNew], rfl, rfl, Nat.le_refl _, rfl, rfl⟩⟩⟩
        case round =>
          obtain ⟨k, x, rk, Mk, hk, rfl, rfl, hx2, HST, HR⟩ := hrel
          by_cases hlt : k < m
          · have hlt' : (k : Int) < (m : Int) := by omega
            have hkl : k < l.length := by rw [← HMM.out]; exact hlt
            obtain ⟨ad, rfl, k0, k1, k2⟩ := (HL.out wr HST.out.2) k hkl
            have hnx := HR.out.2.2.next hkl HFQ.out HQR.out
            obtain ⟨c, hc⟩ : ∃ c, c = l.getD k ch0 := ⟨_, rfl⟩
            rw [← hc] at k0 k1 k2 hnx
            clear hc
            have HSTB : Aside0 (St w F (wr.alloc (.cells #[.int .i64 c.kind, .int .i64 c.key, .int .u64 c.val] 94)) (quL b rk Mk x.1.items ++ [pt wr.heap.size c.box])) := ⟨(HST.out.alloc _).pick [1, 2, 3, 4, 0] (by decide)⟩
            have HSMX := Aside0.mk (HR.out.2.2.small HSM.out HW1.out HLL.out)
            rcases hnx with ⟨h4, hfi, hnx⟩ | ⟨h4, hnx⟩
            · have HNX := Aside0.mk hnx
              obtain ⟨il, hil⟩ : ∃ il, il = x.1.items.length := ⟨_, rfl⟩
              have hfl : x.2 < il := by rw [hil, HR.out.2.2.items]; exact hfi
              obtain ⟨A1, c1, e, hc1, hc2, hat⟩ := item_form (HSTB.out.pick [1] (by decide)).1.one
              obtain ⟨ad2, rfl, i0, i1, i2, f2⟩ := hat x.2 (by rw [← hil]; exact hfl)
              have c34 := (Raw.facts HR.out.1.ok HSTB.out.heap).2.2.1
              rw [e, ← hil] at c34
              have HST2 : Aside0 (St w F ((wr.alloc (.cells #[.int .i64 c.kind, .int .i64 c.key, .int .u64 c.val] 94)).setCell ⟨(ad2.add (x.2 * 3)).block, (ad2.add (x.2 * 3)).off + 2, none⟩ (.int .i64 n)) (quL b rk Mk (x.1.items.set x.2 ⟨(x.1.items.getD x.2 qi0).num, (x.1.items.getD x.2 qi0).val, n⟩) ++ [pt wr.heap.size c.box])) := ⟨by
                have h0 := HSTB.out.pick [1, 0, 2, 3, 4] (by decide)
                have h1 : St w F (wr.alloc (.cells #[.int .i64 c.kind, .int .i64 c.key, .int .u64 c.val] 94)) (itemP (.slice (some ad2) x.1.items.length c1) x.1.items :: [pt b rk.obj, wrowP rk.wv Mk, qObjs Mk, pt wr.heap.size c.box]) := by rw [← e]; exact h0
                have h2 := h1.item_set (x := n) (k := x.2) (by rw [← hil]; exact hfl)
                rw [← e] at h2
                exact h2.pick [1, 0, 2, 3, 4] (by decide)⟩
              obtain ⟨qx, fx⟩ := x
              simp only at hfl hx2 HST2 HNX c34 i2 f2
              have hfl' : (fx : Int) < (il : Int) := by omega
              have hil2 : il ≤ 1000 := by rw [hil]; exact HSMX.out.items
              have HNT := Aside0.mk (HST2.out.call (fun F1 h1 => qnote_calls _ F1 b rk Mk ⟨qx.items.set fx ⟨(qx.items.getD fx qi0).num, (qx.items.getD fx qi0).val, n⟩, qx.works, qx.given⟩ n c ⟨HR.out.1.ok, HR.out.1.works, HR.out.1.given⟩ ⟨by simp only [List.length_set]; exact HSMX.out.items, HSMX.out.works, HSMX.out.lists, HSMX.out.num⟩ h1))
              obtain ⟨x0, x1, x2, _⟩ := heap3 (HSTB.out.pick [4] (by decide)).heap
              obtain ⟨y0, y1, y2, _⟩ := heap3 (HST2.out.pick [4] (by decide)).heap
              clear hfi hnx hil e hat hc1 hc2 i0 i1
              go_wp2_with fail
              refine HNT.out.mono ?_
              rintro e W4 ⟨l', ⟨r', M', rfl, g1, g2, rfl⟩, hst⟩
              have HST4 := Aside0.mk (hst.pick [0, 1, 2, 3] (by decide))
              have HG := Aside0.mk (And.intro g1 g2)
              clear g1 g2 hst
              go_wp2_with fail
              exact ⟨⟨k + 1, (QU.note ⟨qx.items.set fx ⟨(qx.items.getD fx qi0).num, (qx.items.getD fx qi0).val, n⟩, qx.works, qx.given⟩ n c, fx + 1), r', M', by omega, by go_num, by go_num, by show fx + 1 ≤ 1000; omega, ⟨HST4.out⟩, ⟨HG.out.1, HG.out.2.1.trans HR.out.2.1, HNX.out⟩⟩, by simp [intOf]; omega⟩
            · have HNX := Aside0.mk hnx
              obtain ⟨qx, fx⟩ := x
              simp only at hx2 HNX
              have HNT := Aside0.mk (HSTB.out.call (fun F1 h1 => qnote_calls _ F1 b rk Mk qx n c HR.out.1 HSMX.out h1))
              obtain ⟨x0, x1, x2, _⟩ := heap3 (HSTB.out.pick [4] (by decide)).heap
              clear hnx
              go_wp2_with fail
              refine HNT.out.mono ?_
              rintro e W4 ⟨l', ⟨r', M', rfl, g1, g2, rfl⟩, hst⟩
              have HST4 := Aside0.mk (hst.pick [0, 1, 2, 3] (by decide))
              have HG := Aside0.mk (And.intro g1 g2)
              clear g1 g2 hst
              go_wp2_with fail
              exact ⟨⟨k + 1, (qx.note n c, fx), r', M', by omega, by go_num, rfl, hx2, ⟨HST4.out⟩, ⟨HG.out.1, HG.out.2.1.trans HR.out.2.1, HNX.out⟩⟩, by simp [intOf]; omega⟩
          · obtain rfl : k = m := by omega
            have hxx : x = l.foldl (qRedo n) (q, 0) := by rw [HR.out.2.2.is, HMM.out, List.take_length]
            have HX2 : Aside0 (q.restore n l = (⟨x.1.items, qPrep x.1.works n, x.1.given⟩, 0)) := ⟨by rw [HX.out, ← hxx]⟩
            have HSMX := HR.out.2.2.small HSM.out HW1.out HLL.out
            have hMk : Mk.length ≤ 1000 := by have := HSMX.works; rw [← HR.out.1.works] at this; simpa using this
            have HFD := Aside0.mk (qfind_calls wr (New w F) b rk Mk x.1.items n HR.out.1.ok HST.out.1 hMk)
            clear hxx HSMX
            cases hf2 : qFind (Mk.map (·.2)) n with
            | none =>
              have hq2 : qPrep x.1.works n = x.1.works := qPrep_none (by rw [← HR.out.1.works]; exact hf2)
              rw [hq2] at HX2
              rw [fVal_none hf2] at HFD
              clear hq2 hf2 hMk
              go_wp2_with fail
              refine HFD.out.mono ?_
              rintro e W5 ⟨rfl, hw⟩
              have hw := hw.symm
              subst hw
              go_wp2_with fail
              go_ret
              rw [HX2.out]
              exact HST.out.ret ⟨rk, Mk, rfl, ⟨HR.out.1.ok, HR.out.1.works, HR.out.1.given⟩, HR.out.2.1, rfl⟩
            | some i =>
              obtain ⟨mm, hmi, hv, hmn⟩ := fVal_some hf2
              have hwi : x.1.works[i]? = some mm.2 := by rw [← HR.out.1.works, List.getElem?_map, hmi]; rfl
              have hq2 : qPrep x.1.works n = x.1.works.set i ⟨mm.2.n, mm.2.list, true⟩ := qPrep_some (by rw [← HR.out.1.works]; exact hf2) hwi
              rw [hq2] at HX2
              rw [hv] at HFD
              have HMI := Aside0.mk hmi
              obtain ⟨lv, hst⟩ := ((HST.out.1.pick [3, 0, 1, 2] (by decide)).q_take hmi).qw_open
              have HST1 : Aside0 (St w F wr [pt mm.1 (.cells #[.int .i64 mm.2.n, lv, .bool mm.2.prep] 135 (0, 0)), chRow lv mm.2.list, qObjs (Mk.eraseIdx i), pt b rk.obj, itemP rk.iv x.1.items, wrowP rk.wv Mk]) := ⟨hst, HST.out.2⟩
              have HST2 := Aside0.mk (HST1.out.set 2 (.bool true))
              obtain ⟨_, x1, x2, _, f1, f2⟩ := heap3 HST1.out.heap
              have HCLOSE : Aside0 (Ret w F (QuR b r (q.restore n l)) (.returned (.int .i64 0)) (wr.setCell ⟨mm.1, 2, none⟩ (.bool true))) := ⟨by
                rw [HX2.out]
                have h2 := Sep.qw_shut HST2.out.1
                have h3 : Sep (qObjs (Mk.set i (mm.1, ⟨mm.2.n, mm.2.list, true⟩)) :: [pt b rk.obj, itemP rk.iv x.1.items, wrowP rk.wv Mk]) _ (New w F) := Sep.q_put (m := (mm.1, ⟨mm.2.n, mm.2.list, true⟩)) h2 (List.getElem?_eq_some_iff.1 HMI.out).1
                have h4 : St w F _ (qObjs (Mk.set i (mm.1, ⟨mm.2.n, mm.2.list, true⟩)) :: [pt b rk.obj, itemP rk.iv x.1.items, wrowP rk.wv Mk]) := ⟨h3, HST2.out.2⟩
                refine (h4.pick [1, 2, 3, 0] (by decide)).ret ⟨rk, Mk.set i (mm.1, ⟨mm.2.n, mm.2.list, true⟩), rfl, ⟨HR.out.1.ok, ?_, HR.out.1.given⟩, HR.out.2.1, ?_⟩
                · rw [List.map_set, HR.out.1.works]
                · unfold quL
                  rw [wrow_set _ HMI.out]
                  rfl⟩
              obtain ⟨qb, mw⟩ := mm
              simp only [evP] at HFD x1 x2 f1 f2 HCLOSE
              clear hf2 hmi hv hmn hwi hq2 hst HST2 HX2 HMI HST1 hMk
              go_wp2_with fail
              refine HFD.out.mono ?_
              rintro e W5 ⟨rfl, hw⟩
              have hw := hw.symm
              subst hw
              go_wp2_with fail
              go_ret
              exact HCLOSE.out
end Go.Proofs.Ytobljkhidgbeoaa.Oct
