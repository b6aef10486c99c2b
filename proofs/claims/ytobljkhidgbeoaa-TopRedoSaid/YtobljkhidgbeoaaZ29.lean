
import Derived.Test.YtobljkhidgbeoaaZ28
/- The resource: Restore. -/
namespace Go.Proofs.Ytobljkhidgbeoaa.Oct
open Go.RowKit Go.Proofs.YtobljkhidgbeoaaW.PrintWords Go.Proofs.Ytobljkhidgbeoaa.M
set_option linter.unusedVariables false
set_option linter.unusedSimpArgs false
theorem ChAt.take {W : World} {A : Option Addr} {l : List Ch} (h : ChAt W A l) (n : Nat) : ChAt W A (l.take n) := fun k hk => by
  rw [List.length_take] at hk
  obtain ⟨ad, e, h0, h1, h2⟩ := h k (by omega)
  have e1 : (l.take n).getD k ch0 = l.getD k ch0 := by
    rw [List.getD_eq_getElem?_getD, List.getD_eq_getElem?_getD, List.getElem?_take, if_pos (by omega)]
  rw [e1]
  exact ⟨ad, e, h0, h1, h2⟩
theorem ChAt.drop {W : World} {A : Option Addr} {l : List Ch} (h : ChAt W A l) {n c : Nat} (hc : l.length ≤ c) : ChAt W (if c = n then A else A.map (·.add (n * 3))) (l.drop n) := fun k hk => by
  rw [List.length_drop] at hk
  obtain ⟨ad, e, h0, h1, h2⟩ := h (n + k) (by omega)
  have e1 : (l.drop n).getD k ch0 = l.getD (n + k) ch0 := by
    rw [List.getD_eq_getElem?_getD, List.getD_eq_getElem?_getD, List.getElem?_drop]
  rw [e1, if_neg (by omega), e]
  have e2 : (ad.add (n * 3)).add (k * 3) = ad.add ((n + k) * 3) := by rw [add_add, Nat.add_mul]
  refine ⟨ad.add (n * 3), rfl, ?_, ?_, ?_⟩
  · rw [e2]; exact h0
  · rw [e2]; exact h1
  · rw [e2]; exact h2
theorem front_at {l : List Ch} {k : Nat} (hk : k ≤ l.length) (h : ∀ j, j < k → chKv (l.getD j ch0) = true) (he : k = l.length ∨ chKv (l.getD k ch0) = false) : chFront l = l.take k ∧ chRest l = l.drop k := by
  unfold chFront chRest
  induction l generalizing k with
  | nil => simp
  | cons c l ih =>
    cases k with
    | zero =>
      rcases he with he | he
      · simp at he
      · have : chKv c = false := he
        simp [this]
    | succ k =>
      have h0 : chKv c = true := h 0 (by omega)
      have := ih (k := k) (by simpa using hk) (fun j hj => by have := h (j + 1) (by omega); simpa using this) (by rcases he with he | he; exact .inl (by simpa using he); exact .inr (by simpa using he))
      simp [h0, this.1, this.2]
theorem qrestore_same {q : QU} {n : Int} {l : List Ch} (h : (q.restore n l).2 ≠ 0) : (q.restore n l).1 = q := by
  unfold QU.restore at h ⊢
  split
  · rfl
  · rename_i h1
    rw [if_neg h1] at h
    split
    · rfl
    · rename_i h2
      rw [if_neg h2] at h
      split
      · rfl
      · rename_i h3
        rw [if_neg h3] at h
        exact absurd rfl h
set_option maxRecDepth 100000 in
set_option maxHeartbeats 16000000 in
theorem rrestore_calls (w : World) (F : Nat → Prop) (b : Nat) (r : Raw) (K : KM) (Q : QM) (s : RS) (n : Int) (l : List Ch) (A : Option Addr) (cp : Nat) (hs : RsIs r K Q s) (h : Sep (rsL b r K Q s) w F) (hn : I64 n) (hl : ∀ W, Kp w F W → ChAt W A l) (hll : l.length ≤ 1000) (hcp : l.length ≤ cp) (hv : ∀ c ∈ l, U64 c.val) (hsm : s.qu.small) (hqw : s.qu.works.length < 1000) :
    Calls Try.prog 15 #[.pointer (some ⟨b, 0, none⟩), .int .i64 n, .slice A l.length cp] w (Ret w F (RsR b (s.restore n l))) := by
  have HST0 := Aside0.mk (St.start h)
  have HS := Aside0.mk hs
  have HN := Aside0.mk hn
  have HL := Aside0.mk hl
  have HSM := Aside0.mk hsm
  have HQW := Aside0.mk hqw
  have HV := Aside0.mk hv
  obtain ⟨m, hm⟩ : ∃ m, m = l.length := ⟨_, rfl⟩
  have HM := Aside0.mk hm
  have hm2 : m ≤ 1000 := by omega
  have HCP : Aside0 (l.length ≤ cp) := ⟨hcp⟩
  have hmc : (m : Int) ≤ (cp : Int) := by omega
  rw [← hm]
  by_cases h1 : n < 1
  · have HX : Aside0 (s.restore n l = (s, 1)) := ⟨by unfold RS.restore; rw [if_pos h1]⟩
    clear h hs hn hl hll hcp hv hsm hqw hm
    go_enter Try.func15, Try.ntmps15
    go_wp2_with fail
    go_ret
    rw [HX.out]
    exact HST0.out.ret ⟨r, K, Q, rfl, HS.out, rfl⟩
  · have HX : Aside0 (s.restore n l = if (chRest l).any chKv then (s, 3)
      else if (s.kv.restore n (chFront l)).2 ≠ 0 then ({ s with kv := (s.kv.restore n (chFront l)).1 }, (s.kv.restore n (chFront l)).2)
      else if (s.qu.restore n (chRest l)).2 ≠ 0 then ({ s with kv := if chFront l = [] then (s.kv.restore n (chFront l)).1 else ((s.kv.restore n (chFront l)).1.backout n).1 }, (s.qu.restore n (chRest l)).2)
      else ({ kv := (s.kv.restore n (chFront l)).1, qu := (s.qu.restore n (chRest l)).1, p0 := pMark s.p0 n (chFront l), p1 := pMark s.p1 n (chRest l) }, 0)) := ⟨by unfold RS.restore; rw [if_neg h1]⟩
    have HN1 := Aside0.mk h1
    clear h hs hn hl hll hcp hv hsm hqw hm
    go_enter Try.func15, Try.ntmps15
    go_wp2_with fail
    go_loopw [7] (fun v7 wr => ∃ k : Nat, k ≤ m ∧ v7 = .int .i64 k ∧ wr = w ∧ Aside0 (∀ j, j < k → chKv (l.getD j ch0) = true)) (fun v _ => m - (intOf v).toNat)
    case atStart => exact ⟨0, by omega, rfl, rfl, ⟨fun j hj => by omega⟩⟩
    case round =>
      obtain ⟨k, hk, rfl, hwr, HF⟩ := hrel
      have hwr := hwr.symm
      subst hwr
      have hexit : (k < m ∧ chKv (l.getD k ch0) = true) ∨ (k < m ∧ chKv (l.getD k ch0) = false) ∨ k = m := by
        rcases Nat.lt_or_ge k m with h | h
        · cases chKv (l.getD k ch0)
          · exact .inr (.inl ⟨h, rfl⟩)
          · exact .inl ⟨h, rfl⟩
        · exact .inr (.inr (by omega))
      rcases hexit with ⟨hlt, hkv⟩ | hexit
      · have hlt' : (k : Int) < (m : Int) := by omega
        have hkl : k < l.length := by rw [← HM.out]; exact hlt
        obtain ⟨ad, rfl, k0, k1, k2⟩ := (HL.out w (Kp.refl _ _)) k hkl
        have HF2 : Aside0 (∀ j, j < k + 1 → chKv (l.getD j ch0) = true) := ⟨fun j hj => by
          by_cases hjk : j = k
          · rw [hjk]; exact hkv
          · exact HF.out j (by omega)⟩
        obtain ⟨c, hc⟩ : ∃ c, c = l.getD k ch0 := ⟨_, rfl⟩
        rw [← hc] at k0 k1 k2 hkv
        unfold chKv at hkv
        clear hc
        cases hd1 : (c.kind == 1) with
        | true =>
          clear hkv
          go_wp2_with fail
          exact ⟨⟨k + 1, by omega, by go_num, trivial, HF2⟩, by simp [intOf]; omega⟩
        | false =>
          have hd2 : (c.kind == 2) = true := by rw [hd1] at hkv; simpa using hkv
          clear hkv
          go_wp2_with fail
          exact ⟨⟨k + 1, by omega, by go_num, trivial, HF2⟩, by simp [intOf]; omega⟩
      · have hfr := front_at (l := l) (k := k) (by rw [← HM.out]; omega) HF.out (by rw [← HM.out]; rcases hexit with h | h; exact .inr h.2; exact .inl h)
        have HFR := Aside0.mk hfr
        have HTL : Aside0 ((l.take k).length = k ∧ (l.drop k).length = m - k) := ⟨by rw [List.length_take, List.length_drop, ← HM.out]; omega⟩
        obtain ⟨i0, hi0, hz0, hz1, hz2⟩ := info_parts info_ch
        have hmc' : m ≤ cp := by rw [HM.out]; exact HCP.out
        have hs1 := cut_to (P := Try.prog) 39 94 .i64 Try.underlying39 hi0 A m cp (k : Int) (by omega) (by omega) (by omega)
        have hs3 := cut_from (P := Try.prog) 39 94 .i64 Try.underlying39 hi0 3 hz1 A m cp (k : Int) (by omega) (by omega)
        simp only [Int.toNat_natCast] at hs1 hs3
        obtain ⟨B3, hB3⟩ : ∃ B3, B3 = (if cp = k then A else A.map (·.add (k * 3))) := ⟨_, rfl⟩
        obtain ⟨d, hd⟩ : ∃ d, d = m - k := ⟨_, rfl⟩
        obtain ⟨cp3, hcp3⟩ : ∃ cp3, cp3 = cp - k := ⟨_, rfl⟩
        rw [← hB3, ← hd, ← hcp3] at hs3
        rw [← hd] at HTL
        have HLA : Aside0 (∀ W, Kp w F W → ChAt W A (l.take k)) := ⟨fun W hW => (HL.out W hW).take k⟩
        have HLB : Aside0 (∀ W, Kp w F W → ChAt W B3 (l.drop k)) := ⟨fun W hW => by rw [hB3]; exact (HL.out W hW).drop HCP.out⟩
        have hd2 : d ≤ 1000 := by omega
        have HK2 : Aside0 (k ≤ 1000) := ⟨by omega⟩
        clear hB3 hi0 hz0 hz1 hz2 hd hcp3 hfr hmc'
        have HXF : Aside0 (s.restore n l = if (l.drop k).any chKv then (s, 3)
          else if (s.kv.restore n (l.take k)).2 ≠ 0 then ({ s with kv := (s.kv.restore n (l.take k)).1 }, (s.kv.restore n (l.take k)).2)
          else if (s.qu.restore n (l.drop k)).2 ≠ 0 then ({ s with kv := if l.take k = [] then (s.kv.restore n (l.take k)).1 else ((s.kv.restore n (l.take k)).1.backout n).1 }, (s.qu.restore n (l.drop k)).2)
          else ({ kv := (s.kv.restore n (l.take k)).1, qu := (s.qu.restore n (l.drop k)).1, p0 := pMark s.p0 n (l.take k), p1 := pMark s.p1 n (l.drop k) }, 0)) := ⟨by rw [HX.out, HFR.out.1, HFR.out.2]⟩
        clear HX HFR
        rcases hexit with ⟨hlt, hkv⟩ | hkm
        focus
          have hlt' : (k : Int) < (m : Int) := by omega
          have hkl : k < l.length := by rw [← HM.out]; exact hlt
          obtain ⟨ad, e, k0, k1, k2⟩ := (HL.out w (Kp.refl _ _)) k hkl
          subst e
          obtain ⟨c, hc⟩ : ∃ c, c = l.getD k ch0 := ⟨_, rfl⟩
          rw [← hc] at k0 k1 k2 hkv
          unfold chKv at hkv
          clear hc
          have hd1 : (c.kind == 1) = false := by revert hkv; cases (c.kind == 1) <;> simp
          have hd2 : (c.kind == 2) = false := by revert hkv; cases (c.kind == 2) <;> simp
          clear hkv hkl
          go_wp2_with fail
          clear hlt hlt' k0 k1 k2 hd1 hd2
          generalize (some ad : Option Addr) = A at *
        rotate_left
        focus
          have hlt' : ¬ (k : Int) < (m : Int) := by omega
          clear hkm
          go_wp2_with fail
          clear hlt'
        all_goals
          go_loopw [42] (fun v42 wr => ∃ j : Nat, j ≤ d ∧ v42 = .int .i64 j ∧ Aside0 (Below w.heap.size w wr) ∧ Aside0 (∀ i, i < j → chKv ((l.drop k).getD i ch0) = false)) (fun v _ => d - (intOf v).toNat)
          case atStart => exact ⟨0, by omega, rfl, ⟨Below.refl _ _⟩, ⟨fun j hj => by omega⟩⟩
          case round =>
            obtain ⟨j, hj, rfl, HB, HG⟩ := hrel
            have HSTW := Aside0.mk (HST0.out.below HB.out)
            by_cases hlt2 : j < d
            · have hlt2' : (j : Int) < (d : Int) := by omega
              have hjl : j < (l.drop k).length := by rw [HTL.out.2]; exact hlt2
              obtain ⟨ad3, e3, k0, k1, k2⟩ := (HLB.out wr HSTW.out.2) j hjl
              subst e3
              obtain ⟨c, hc⟩ : ∃ c, c = (l.drop k).getD j ch0 := ⟨_, rfl⟩
              have HCM : Aside0 (c ∈ l.drop k) := ⟨by rw [hc, List.getD_eq_getElem?_getD, List.getElem?_eq_getElem hjl]; exact List.getElem_mem hjl⟩
              rw [← hc] at k0 k1 k2
              have HC := Aside0.mk hc
              clear hc hjl
              have HST1 : Aside0 (St w F (wr.alloc (.cells #[.int .i64 c.kind, .int .i64 c.key, .int .u64 c.val] 94)) (rsL b r K Q s)) := ⟨HSTW.out.below (below_alloc (Below.refl _ _) _)⟩
              have HB1 : Aside0 (Below w.heap.size w (wr.alloc (.cells #[.int .i64 c.kind, .int .i64 c.key, .int .u64 c.val] 94))) := ⟨HB.out.trans ((below_alloc (Below.refl _ _) _).mono HB.out.size)⟩
              obtain ⟨x0, x1, x2, _⟩ := heap3 (heap_alloc_new wr (.cells #[.int .i64 c.kind, .int .i64 c.key, .int .u64 c.val] 94))
              have hbad : chKv c = true → s.restore n l = (s, 3) := fun hck => by
                rw [HXF.out, if_pos (List.any_eq_true.2 ⟨c, HCM.out, hck⟩)]
              unfold chKv at hbad
              cases hd1 : (c.kind == 1) with
              | true =>
                have HY : Aside0 (s.restore n l = (s, 3)) := ⟨hbad (by rw [hd1]; rfl)⟩
                clear hbad
                go_wp2_with fail
                go_ret
                rw [HY.out]
                exact HST1.out.ret ⟨r, K, Q, rfl, HS.out, rfl⟩
              | false =>
                cases hd2 : (c.kind == 2) with
                | true =>
                  have HY : Aside0 (s.restore n l = (s, 3)) := ⟨hbad (by rw [hd2]; simp)⟩
                  clear hbad
                  go_wp2_with fail
                  go_ret
                  rw [HY.out]
                  exact HST1.out.ret ⟨r, K, Q, rfl, HS.out, rfl⟩
                | false =>
                  have HG2 : Aside0 (∀ i, i < j + 1 → chKv ((l.drop k).getD i ch0) = false) := ⟨fun i hi => by
                    by_cases hij : i = j
                    · rw [hij, ← HC.out]; unfold chKv; rw [hd1, hd2]; rfl
                    · exact HG.out i (by omega)⟩
                  clear hbad
                  go_wp2_with fail
                  exact ⟨⟨j + 1, by omega, by go_num, HB1, HG2⟩, by simp [intOf]; omega⟩
            · have hlt2' : ¬ (j : Int) < (d : Int) := by omega
              have hany : (l.drop k).any chKv = false := by
                rw [List.any_eq_false]
                intro c hc
                obtain ⟨i, hi, rfl⟩ := List.getElem_of_mem hc
                have := HG.out i (by rw [HTL.out.2] at hi; omega)
                rw [List.getD_eq_getElem?_getD, List.getElem?_eq_getElem hi] at this
                simpa using this
              have hxf := HXF.out
              rw [hany, if_neg (by decide)] at hxf
              have HKR : Aside0 (Calls Try.prog 40 #[.pointer (some ⟨b, 0, none⟩), .int .i64 n, .slice A k cp] wr.drew (fun e W' => ∃ l', KvR b r (s.kv.restore n (l.take k)) e l' ∧ St w F W' (l' ++ rsT r Q s))) := ⟨by
                have := St.call_rd (l1 := kvL b r K s.kv.locks) (l2 := rsT r Q s) (fun W => ChAt W A (l.take k)) HSTW.out.drew (fun W' hst => HLA.out W' hst.2) (fun F1 h1 hH => krestore_calls _ F1 b r K s.kv n (l.take k) A cp HS.out.kv h1 HN.out hH (by rw [HTL.out.1]; have := HK2.out; omega) (fun c hc => HV.out c (List.mem_of_mem_take hc)))
                rw [HTL.out.1] at this
                exact this⟩
              have HTN : Aside0 (l.take k = [] ↔ k = 0) := ⟨by
                have := HTL.out.1
                constructor
                · intro e; rw [e] at this; exact this.symm
                · intro e; rw [e]; rfl⟩
              obtain ⟨la, hla⟩ : ∃ la, la = l.take k := ⟨_, rfl⟩
              obtain ⟨lb, hlb⟩ : ∃ lb, lb = l.drop k := ⟨_, rfl⟩
              rw [← hla, ← hlb] at hxf
              rw [← hla] at HKR HTN
              have HLA2 := Aside0.mk hla
              have HLB2 := Aside0.mk hlb
              obtain ⟨xa, hxa⟩ : ∃ xa, xa = s.kv.restore n la := ⟨_, rfl⟩
              rw [← hxa] at HKR hxf
              obtain ⟨k1, ea⟩ := xa
              have HXF2 := Aside0.mk hxf
              clear hxf hxa hla hlb hany HXF
              dsimp only at HXF2
              go_wp2_with fail
              go_still_tail 7, (by kernel_rfl)
              go_wp2_with fail
              refine HKR.out.mono ?_
              rintro e W2 ⟨l', ⟨r1, K1, rfl, h1, h2, rfl⟩, hst⟩
              dsimp only at h1 hst ⊢
              have HZ := Aside0.mk (rs_kv HS.out h1 h2 hst)
              clear h1 h2 hst HKR
              by_cases hea : ea = 0
              · subst hea
                have HLBL : Aside0 (lb.length = d) := ⟨by rw [HLB2.out, HTL.out.2]⟩
                have HLAL : Aside0 (la.length = k) := ⟨by rw [HLA2.out, HTL.out.1]⟩
                have hxf := HXF2.out
                rw [if_neg (by decide)] at hxf
                have HQ2 : Aside0 (Calls Try.prog 41 #[.pointer (some ⟨b, 34, none⟩), .int .i64 n, .slice B3 d cp3] W2.drew (fun e W' => ∃ l', QuR b r1 (s.qu.restore n lb) e l' ∧ St w F W' (l' ++ rsU r1 K1 ⟨k1, s.qu, s.p0, s.p1⟩))) := ⟨by
                  have := St.call_rd (l1 := quL b r1 Q s.qu.items) (l2 := rsU r1 K1 ⟨k1, s.qu, s.p0, s.p1⟩) (fun W => ChAt W B3 lb) (HZ.out.2.drew.pick [0, 4, 5, 6, 1, 2, 3, 7, 8] (by decide)) (fun W' hst => by rw [HLB2.out]; exact HLB.out W' hst.2) (fun F1 h1 hH => qrestore_calls _ F1 b r1 Q s.qu n lb B3 cp3 HZ.out.1.qu HSM.out h1 hH HQW.out (by rw [HLBL.out]; exact hd2))
                  rw [HLBL.out] at this
                  exact this⟩
                obtain ⟨xb, hxb⟩ : ∃ xb, xb = s.qu.restore n lb := ⟨_, rfl⟩
                have hsame : xb.2 ≠ 0 → xb.1 = s.qu := by rw [hxb]; exact qrestore_same
                rw [← hxb] at HQ2 hxf
                obtain ⟨q1, eb⟩ := xb
                have HXF3 := Aside0.mk hxf
                have HSAME := Aside0.mk hsame
                clear hxf hxb HXF2 hsame
                dsimp only at HXF3 HSAME
                go_wp2_with fail
                go_still_tail 7, (by kernel_rfl)
                go_wp2_with fail
                refine HQ2.out.mono ?_
                rintro e W3 ⟨l', ⟨r2, Q2, rfl, g1, g2, rfl⟩, hst⟩
                dsimp only at g1 hst ⊢
                have HY := Aside0.mk (rs_qu (s := ⟨k1, s.qu, s.p0, s.p1⟩) HZ.out.1 g1 g2 hst)
                clear g1 g2 hst HQ2 HZ
                by_cases heb : eb = 0
                · subst heb
                  have HM0 := Aside0.mk (St.call (l1 := [pt b r2.obj, preP r2.p0 s.p0]) (l2 := [wmapP r2.wm (ptrs K1), objsP kwP K1, lockP r2.lm k1.locks, itemP r2.iv q1.items, wrowP r2.wv Q2, qObjs Q2, preP r2.p1 s.p1]) (HY.out.2.pick [0, 7, 1, 2, 3, 4, 5, 6, 8] (by decide)) (fun F1 h1 => rmark0_calls W3 F1 b r2 s.p0 n A la.length cp HY.out.1.kv.ok HN.out h1))
                  rw [mark_len, HLAL.out] at HM0
                  go_wp2_with fail
                  refine HM0.out.mono ?_
                  rintro e W4 ⟨l', ⟨v0, rfl, rfl⟩, hst⟩
                  have HM1 := Aside0.mk (St.call (l1 := [pt b ({ r2 with p0 := v0 } : Raw).obj, preP ({ r2 with p0 := v0 } : Raw).p1 s.p1]) (l2 := [preP v0 (pMark s.p0 n la), wmapP r2.wm (ptrs K1), objsP kwP K1, lockP r2.lm k1.locks, itemP r2.iv q1.items, wrowP r2.wv Q2, qObjs Q2]) (hst.pick [0, 8, 1, 2, 3, 4, 5, 6, 7] (by decide)) (fun F1 h1 => rmark1_calls W4 F1 b { r2 with p0 := v0 } s.p1 n B3 lb.length cp3 HY.out.1.kv.ok HN.out h1))
                  rw [mark_len, HLBL.out] at HM1
                  clear hst HM0
                  go_wp2_with fail
                  refine HM1.out.mono ?_
                  rintro e W5 ⟨l', ⟨v1, rfl, rfl⟩, hst⟩
                  have HST5 := Aside0.mk (hst.pick [0, 3, 4, 5, 6, 7, 8, 2, 1] (by decide))
                  have HIS : Aside0 (RsIs { r2 with p0 := v0, p1 := v1 } K1 Q2 ⟨k1, q1, pMark s.p0 n la, pMark s.p1 n lb⟩) := ⟨⟨⟨HY.out.1.kv.ok, HY.out.1.kv.vals, HY.out.1.kv.there, HY.out.1.kv.works, HY.out.1.kv.len, HY.out.1.kv.good⟩, ⟨HY.out.1.qu.ok, HY.out.1.qu.works, HY.out.1.qu.given⟩⟩⟩
                  clear hst HM1
                  go_wp2_with fail
                  go_ret
                  rw [HXF3.out, if_neg (by decide)]
                  exact HST5.out.ret ⟨{ r2 with p0 := v0, p1 := v1 }, K1, Q2, rfl, HIS.out, rfl⟩
                · have hne : (eb != 0) = true := bne_iff_ne.2 heb
                  have hq1 : q1 = s.qu := HSAME.out heb
                  have HQ1 := Aside0.mk hq1
                  have hxf := HXF3.out
                  rw [if_pos heb] at hxf
                  clear heb hq1 HSAME
                  by_cases hk0 : k = 0
                  · have HXG : Aside0 (s.restore n l = (⟨k1, s.qu, s.p0, s.p1⟩, eb)) := ⟨by rw [hxf, if_pos (HTN.out.2 hk0)]⟩
                    have hk1 : ¬ (0 : Int) < (k : Int) := by omega
                    clear hxf hk0
                    go_wp2_with fail
                    go_ret
                    rw [HXG.out]
                    have hy := HY.out
                    rw [HQ1.out] at hy
                    exact hy.2.ret ⟨r2, K1, Q2, rfl, hy.1, rfl⟩
                  · have HXG : Aside0 (s.restore n l = (⟨(k1.backout n).1, s.qu, s.p0, s.p1⟩, eb)) := ⟨by rw [hxf, if_neg (fun e => hk0 (HTN.out.1 e))]⟩
                    have hk1 : (0 : Int) < (k : Int) := by omega
                    have HB := Aside0.mk (St.call (l1 := kvL b r2 K1 k1.locks) (l2 := rsT r2 Q2 ⟨k1, q1, s.p0, s.p1⟩) HY.out.2 (fun F1 h1 => kbackout_calls W3 F1 b r2 K1 k1 n HY.out.1.kv h1 HN.out))
                    clear hxf hk0
                    go_wp2_with fail
                    refine HB.out.mono ?_
                    rintro e W4 ⟨l', ⟨r3, K3, rfl, h1, h2, rfl⟩, hst⟩
                    have HZ := Aside0.mk (rs_kv HY.out.1 h1 h2 hst)
                    clear h1 h2 hst HB
                    go_wp2_with fail
                    go_ret
                    rw [HXG.out]
                    have hz := HZ.out
                    rw [HQ1.out] at hz
                    exact hz.2.ret ⟨r3, K3, Q2, rfl, hz.1, rfl⟩
              · have hne : (ea != 0) = true := bne_iff_ne.2 hea
                have HY : Aside0 (s.restore n l = (⟨k1, s.qu, s.p0, s.p1⟩, ea)) := ⟨by rw [HXF2.out, if_pos hea]⟩
                clear hea
                go_wp2_with fail
                go_ret
                rw [HY.out]
                exact HZ.out.2.ret ⟨r1, K1, Q, rfl, HZ.out.1, rfl⟩
end Go.Proofs.Ytobljkhidgbeoaa.Oct
