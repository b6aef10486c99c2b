
import Derived.Test.YtobljkhidgbeoaaZ19
/- The queue: right. -/
namespace Go.Proofs.Ytobljkhidgbeoaa.Oct
open Go.RowKit Go.Proofs.YtobljkhidgbeoaaW.PrintWords Go.Proofs.Ytobljkhidgbeoaa.M
set_option linter.unusedVariables false
set_option linter.unusedSimpArgs false
theorem stood_item : Try.prog.stoodInHeld 115 = false := by kernel_rfl
theorem eq_item (w : World) (a b c d e f : Int) : (Op.equalIn 10000 115 (.agg #[.int .i64 a, .int .u64 b, .int .i64 c]) (.agg #[.int .i64 d, .int .u64 e, .int .i64 f])).run Try.prog w = .ok (a == d && (b == e && c == f)) w := by
  have u3 := Try.underlying3
  have u4 := Try.underlying71
  have h1 := run_equalIn_agg (P := Try.prog) w 9999 115 #[.int .i64 a, .int .u64 b, .int .i64 c] #[.int .i64 d, .int .u64 e, .int .i64 f] (by kernel_rfl) stood_item
  rw [show (10000 : Nat) = 9999 + 1 from rfl, h1]
  simp only [Program.fieldsOf, Try.underlying115]
  go_simp
  by_cases h1 : a = d <;> by_cases h2 : b = e <;> by_cases h3 : c = f <;> simp [h1, h2, h3]
theorem qRight_put {items : List QI} {c : Ch} {l : List Ch} {f : Nat} (h : (c.kind == 3 && c.key == 0) = true) : qRight items (c :: l) f = qRight items l f := by rw [qRight, if_pos h]
theorem qRight_take {items : List QI} {c : Ch} {l : List Ch} {f : Nat} (h : (c.kind == 3 && c.key == 0) = false) (h2 : (c.kind == 4 && (decide (f < items.length) && decide (items.getD f ⟨0, 0, 0⟩ = ⟨c.key, c.val, 0⟩))) = true) : qRight items (c :: l) f = qRight items l (f + 1) := by rw [qRight, if_neg (by rw [h]; decide), if_pos h2]
theorem qRight_bad {items : List QI} {c : Ch} {l : List Ch} {f : Nat} (h : (c.kind == 3 && c.key == 0) = false) (h2 : (c.kind == 4 && (decide (f < items.length) && decide (items.getD f ⟨0, 0, 0⟩ = ⟨c.key, c.val, 0⟩))) = false) : qRight items (c :: l) f = false := by rw [qRight, if_neg (by rw [h]; decide), if_neg (by rw [h2]; decide)]
set_option maxRecDepth 100000 in
set_option maxHeartbeats 8000000 in
theorem qright_calls (w : World) (F : Nat → Prop) (b : Nat) (r : Raw) (M : QM) (q : QU) (l : List Ch) (A : Option Addr) (cp : Nat) (hq : QuIs r M q) (hs : q.small) (h : Sep (quL b r M q.items) w F) (hl : ChAt w A l) (hll : l.length ≤ 10000000) :
    Calls Try.prog 65 #[.pointer (some ⟨b, 34, none⟩), .slice A l.length cp] w fun e w' => e = .returned (.bool (q.right l)) ∧ Below w.heap.size w w' := by
  have HST0 := Aside0.mk (St.start h)
  have HQ := Aside0.mk hq
  have HSM := Aside0.mk hs
  have HL := Aside0.mk hl
  obtain ⟨A1, c1, e, hc1, _, _⟩ := item_form (h.pick [1] (by decide)).one
  have HE := Aside0.mk e
  obtain ⟨m, hm⟩ : ∃ m, m = l.length := ⟨_, rfl⟩
  have HM := Aside0.mk hm
  rw [← hm]
  have hm2 : m ≤ 10000000 := by omega
  obtain ⟨il, hil⟩ : ∃ il, il = q.items.length := ⟨_, rfl⟩
  have HIL := Aside0.mk hil
  have hil2 : il ≤ 1000 := by rw [hil]; exact hs.items
  clear hq hs h hl e hm hil hll hc1
  go_enter Try.func65, Try.ntmps65
  go_wp2_with fail
  go_loopw [5, 7, 10] (fun v5 _ v10 wr => ∃ k f : Nat, k ≤ m ∧ v10 = .int .i64 k ∧ v5 = .int .i64 f ∧ f ≤ k ∧ Aside0 (Below w.heap.size w wr) ∧ Aside0 (qRight q.items l 0 = qRight q.items (l.drop k) f)) (fun _ _ v _ => m - (intOf v).toNat)
  case atStart => exact ⟨0, 0, by omega, rfl, rfl, by omega, ⟨Below.refl _ _⟩, ⟨rfl⟩⟩
  case round =>
    obtain ⟨k, f, hk, rfl, rfl, hf, HB, HF⟩ := hrel
    have HSTW := Aside0.mk (HST0.out.below HB.out)
    by_cases hlt : k < m
    · have hlt' : (k : Int) < (m : Int) := by omega
      have hkl : k < l.length := by rw [← HM.out]; exact hlt
      obtain ⟨ad, rfl, k0, k1, k2⟩ := (HL.out.below HB.out) k hkl
      obtain ⟨c, hc⟩ : ∃ c, c = l.getD k ch0 := ⟨_, rfl⟩
      have HD : Aside0 (l.drop k = c :: l.drop (k + 1)) := ⟨by rw [List.drop_eq_getElem_cons hkl, hc, List.getD_eq_getElem?_getD, List.getElem?_eq_getElem hkl]; rfl⟩
      rw [← hc] at k0 k1 k2
      have HSTB : Aside0 (St w F (wr.alloc (.cells #[.int .i64 c.kind, .int .i64 c.key, .int .u64 c.val] 94)) (quL b r M q.items ++ [pt wr.heap.size c.box])) := ⟨(HSTW.out.alloc _).pick [1, 2, 3, 4, 0] (by decide)⟩
      have HB1 : Aside0 (Below w.heap.size w (wr.alloc (.cells #[.int .i64 c.kind, .int .i64 c.key, .int .u64 c.val] 94))) := ⟨HB.out.trans ((below_alloc (Below.refl _ _) _).mono HB.out.size)⟩
      clear hc
      cases hp : (c.kind == 3 && c.key == 0) with
      | true =>
        have HF2 : Aside0 (qRight q.items l 0 = qRight q.items (l.drop (k + 1)) f) := ⟨by rw [HF.out, HD.out, qRight_put hp]⟩
        simp only [Bool.and_eq_true] at hp
        obtain ⟨p1, p2⟩ := hp
        go_wp2_with fail
        exact ⟨⟨k + 1, f, by omega, by go_num, rfl, by omega, HB1, HF2⟩, by simp [intOf]; omega⟩
      | false =>
        have HP := Aside0.mk hp
        have hp2 : (c.kind == 3) = false ∨ ((c.kind == 3) = true ∧ (c.key == 0) = false) := by
          cases h3 : (c.kind == 3) with
          | false => exact .inl rfl
          | true => rw [h3] at hp; exact .inr ⟨rfl, by simpa using hp⟩
        clear hp
        obtain ⟨x, hx⟩ : ∃ x, x = q.items.getD f qi0 := ⟨_, rfl⟩
        by_cases h4 : (c.kind == 4) = true
        · have h3 : (c.kind == 3) = false := by rw [beq_iff_eq] at h4; rw [h4]; rfl
          by_cases hfi : f < il
          · have hfi' : (f : Int) < (il : Int) := by omega
            have hf0 : f < q.items.length := by rw [← HIL.out]; exact hfi
            have HEQ : Aside0 (decide (q.items.getD f ⟨0, 0, 0⟩ = ⟨c.key, c.val, 0⟩) = (x.num == c.key && (x.val == c.val && x.work == 0))) := ⟨by
              have e0 : q.items.getD f ⟨0, 0, 0⟩ = x := hx.symm
              rw [e0]
              obtain ⟨a1, a2, a3⟩ := x
              rw [Bool.eq_iff_iff]
              simp⟩
            obtain ⟨A', c', e', _, _, hat⟩ := item_form (HSTB.out.pick [1] (by decide)).1.one
            rw [HE.out] at e'
            injection e' with e' e2 e3
            clear e2 e3
            subst e'
            obtain ⟨ad2, rfl, i0, i1, i2, _⟩ := hat f hf0
            rw [← hx] at i0 i1 i2
            have c34 := (Raw.facts HQ.out.ok HSTB.out.heap).2.2.1
            rw [HE.out, ← HIL.out] at c34
            obtain ⟨x0, x1, x2, _⟩ := heap3 (HSTB.out.pick [4] (by decide)).heap
            have heqs := fun W => eq_item W x.num x.val x.work c.key c.val 0
            clear hp2 hx hat
            cases hbb : (x.num == c.key && (x.val == c.val && x.work == 0)) with
            | true =>
              have HF2 : Aside0 (qRight q.items l 0 = qRight q.items (l.drop (k + 1)) (f + 1)) := ⟨by rw [HF.out, HD.out, qRight_take HP.out (by rw [h4, HEQ.out, hbb]; simp [hf0])]⟩
              rw [hbb] at heqs
              clear hbb
              go_wp2_with fail
              go_quiet (fail)
              go_wp2_with fail
              exact ⟨⟨k + 1, f + 1, by omega, by go_num, by go_num, by omega, ⟨HB1.out.trans ((below_drawN _ _).mono HB1.out.size)⟩, HF2⟩, by simp [intOf]; omega⟩
            | false =>
              have HX : Aside0 (q.right l = false) := ⟨by unfold QU.right; rw [HF.out, HD.out, qRight_bad HP.out (by rw [h4, HEQ.out, hbb]; simp)]; rfl⟩
              rw [hbb] at heqs
              clear hbb
              go_wp2_with fail
              go_quiet (fail)
              go_wp2_with fail
              go_ret
              rw [HX.out]
              exact ⟨rfl, HB1.out.trans ((below_drawN _ _).mono HB1.out.size)⟩
          · have hfi' : ¬ (f : Int) < (il : Int) := by omega
            have hfi2 : ¬ f < q.items.length := by rw [← HIL.out]; exact hfi
            have HX : Aside0 (q.right l = false) := ⟨by unfold QU.right; rw [HF.out, HD.out, qRight_bad HP.out (by simp [hfi2])]; rfl⟩
            have hfd : decide (f < il) = false := by simpa using hfi
            have hfd' : decide ((f : Int) < (il : Int)) = false := by simpa using hfi
            have c34 := (Raw.facts HQ.out.ok HSTB.out.heap).2.2.1
            rw [HE.out, ← HIL.out] at c34
            obtain ⟨x0, x1, x2, _⟩ := heap3 (HSTB.out.pick [4] (by decide)).heap
            clear hp2 hx hfi hfi2
            go_wp2_with fail
            go_quiet (fail)
            go_wp2_with fail
            go_ret
            rw [HX.out]
            exact ⟨rfl, HB1.out.trans ((below_drawN _ _).mono HB1.out.size)⟩
        · have h4' : (c.kind == 4) = false := by simpa using h4
          have HX : Aside0 (q.right l = false) := ⟨by unfold QU.right; rw [HF.out, HD.out, qRight_bad HP.out (by rw [h4']; rfl)]; rfl⟩
          obtain ⟨x0, x1, x2, _⟩ := heap3 (HSTB.out.pick [4] (by decide)).heap
          clear h4 hx
          rcases hp2 with h3 | ⟨h3, hk0⟩
          · go_wp2_with fail
            go_quiet (fail)
            go_wp2_with fail
            go_ret
            rw [HX.out]
            exact ⟨rfl, HB1.out.trans ((below_drawN _ _).mono HB1.out.size)⟩
          · go_wp2_with fail
            go_quiet (fail)
            go_wp2_with fail
            go_ret
            rw [HX.out]
            exact ⟨rfl, HB1.out.trans ((below_drawN _ _).mono HB1.out.size)⟩
    · obtain rfl : k = m := by omega
      have hall : qRight q.items l 0 = true := by rw [HF.out, List.drop_eq_nil_of_le (by rw [HM.out]; exact Nat.le_refl _)]; rfl
      have HX : Aside0 (q.right l = decide ((chPuts l : Int) ≤ max q.room 0)) := ⟨by unfold QU.right; rw [hall]; rfl⟩
      have HP := Aside0.mk (qputs_calls wr l A cp (HL.out.below HB.out) (by rw [← HM.out]; exact hm2))
      rw [← HM.out] at HP
      have hpl : chPuts l ≤ k := by rw [HM.out]; exact chPuts_le l
      have HRM : Aside0 (∀ W, Below w.heap.size w W → Calls Try.prog 72 #[.pointer (some ⟨b, 34, none⟩)] W fun e w' => e = .returned (.int .i64 q.room) ∧ Below W.heap.size W w') := ⟨fun W hW => qroom_calls W (New w F) b r M q HQ.out HSM.out (HST0.out.below hW).1⟩
      clear hall
      generalize chPuts l = pn at HX HP hpl
      generalize q.room = rm at HX HRM
      go_wp2_with fail
      refine HP.out.mono ?_
      rintro e W2 ⟨rfl, hb2⟩
      have HB2 := Aside0.mk (HB.out.trans (hb2.mono HB.out.size))
      clear hb2
      go_wp2_with fail
      refine (HRM.out _ HB2.out).mono ?_
      rintro e W3 ⟨rfl, hb3⟩
      have HB3 := Aside0.mk (HB2.out.trans (hb3.mono HB2.out.size))
      clear hb3
      go_wp2_with fail
      all_goals
        go_ret
        rw [HX.out]
        refine ⟨congrArg (fun z => Ending.returned (Value.bool z)) ?_, HB3.out⟩
        rw [Bool.eq_iff_iff]
        simp only [decide_eq_true_eq, Int.max_def]
        split <;> omega
end Go.Proofs.Ytobljkhidgbeoaa.Oct
