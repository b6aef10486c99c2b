
import Derived.Test.YtobljkhidgbeoaaZ45
import Derived.Test.YtobljkhidgbeoaaZ46
/- TopRedo: the walk. -/
namespace Go.Proofs.Ytobljkhidgbeoaa.Oct
open Go.RowKit Go.Proofs.YtobljkhidgbeoaaW.PrintWords Go.Proofs.Ytobljkhidgbeoaa.M
set_option linter.unusedVariables false
set_option linter.unusedSimpArgs false
theorem info_im : (Try.prog.info? 36).map (fun i => (i.zero, i.size, i.bytes)) = some (some (.agg #[.slice none 0 0, .slice none 0 0, .int .i64 0]), 3, 56) := by kernel_rfl
def MOk (M : ImM) (cs : List (List Ch)) : Prop := M.length = cs.length + 1 ∧ ∀ k, k ≤ cs.length → ∃ x, M[k]? = some x ∧ x.2 = stAt cs k
theorem MOk.snoc {M : ImM} {cs : List (List Ch)} {l : List Ch} {p i : Value} {s : RS} (h : MOk M cs) (hs : s = stAt (cs ++ [l]) (cs.length + 1)) : MOk (M ++ [((p, i), s)]) (cs ++ [l]) := by
  refine ⟨by rw [List.length_append, h.1, List.length_append]; rfl, fun k hk => ?_⟩
  rw [List.length_append] at hk
  simp only [List.length_cons, List.length_nil] at hk
  rcases Nat.lt_or_ge k (cs.length + 1) with h1 | h1
  · obtain ⟨x, e1, e2⟩ := h.2 k (by omega)
    exact ⟨x, by rw [List.getElem?_append_left (by rw [h.1]; exact h1)]; exact e1, by rw [e2, stAt_snoc (by omega)]⟩
  · obtain rfl : k = cs.length + 1 := by omega
    exact ⟨((p, i), s), by rw [List.getElem?_append_right (by rw [h.1]; exact Nat.le_refl _), h.1, Nat.sub_self]; rfl, hs⟩
/-- a block that is a row of one image -/
theorem St.im_first {w W : World} {F : Nat → Prop} {b : Nat} {p i : Value} {s : RS} {l : List Part} (h : St w F W (pt b (.cells #[p, i, .int .i64 s.image.next] 36 (0, 0)) :: prRow p s.image.pairs :: vRow i s.qu.items :: l)) :
    St w F W (imRow (.slice (some ⟨b, 0, none⟩) 1 1) [((p, i), s)] :: imObjs [((p, i), s)] :: l) := by
  have h1 : St w F W (row 36 3 (.slice (some ⟨b, 0, none⟩) 1 1) 1 [p, i, .int .i64 s.image.next] :: prRow p s.image.pairs :: vRow i s.qu.items :: l) := ⟨h.1.row_shut (by decide) (by simp [maxLen]) (by simp) (by simp) (by simp), h.2⟩
  have h2 : St w F W ([prRow p s.image.pairs, vRow i s.qu.items] ++ (row 36 3 (.slice (some ⟨b, 0, none⟩) 1 1) 1 [p, i, .int .i64 s.image.next] :: l)) := h1.perm ((List.Perm.swap _ _ _).trans ((List.Perm.swap _ _ _).cons _))
  have h3 : St w F W (imObj ((p, i), s) :: row 36 3 (.slice (some ⟨b, 0, none⟩) 1 1) 1 [p, i, .int .i64 s.image.next] :: l) := ⟨Sep.nest h2.1, h2.2⟩
  have h4 : St w F W ([imObj ((p, i), s)] ++ (row 36 3 (.slice (some ⟨b, 0, none⟩) 1 1) 1 [p, i, .int .i64 s.image.next] :: l)) := h3
  have h5 : St w F W (imObjs [((p, i), s)] :: row 36 3 (.slice (some ⟨b, 0, none⟩) 1 1) 1 [p, i, .int .i64 s.image.next] :: l) := ⟨Sep.nest h4.1, h4.2⟩
  exact h5.perm (List.Perm.swap _ _ _)
theorem chRow_at {A : Option Addr} {n c : Nat} {l : List Ch} {W : World} {F : Nat → Prop} (h : (chRow (.slice A n c) l).P W F) : ChAt W A l := by
  obtain ⟨A', c', e, _, _, ha⟩ := chRow_form h
  injection e with e1 _ _
  rw [e1]
  exact ha
theorem recs_get {cs : List (List Ch)} {k i : Nat} (hi : i < k) (hk : k ≤ cs.length) : ((recsC cs).take k).getD i (0, []) = (5, wrB (cs.getD i [])) := by
  unfold recsC
  rw [List.getD_eq_getElem?_getD, List.getElem?_take, if_pos hi, List.getElem?_map, List.getElem?_eq_getElem (by omega), List.getD_eq_getElem?_getD, List.getElem?_eq_getElem (by omega)]
  rfl
/-- the same changes, done again, in all -/
theorem stepOk.redo {B : RS} {l : List Ch} (hB : B.idle) (h : stepOk B l) : ∃ A1, B.restore 2 l = (A1, 0) ∧ A1.commit 2 = (B.after (chFront l) (chRest l), 0) ∧ A1.qu.small := by
  obtain ⟨A1, e1, e2, e3, e4, e5⟩ := RS.redo (s := B) (n := 2) hB h.1 h.2 (by decide)
  have e : chFront l ++ chRest l = l := List.takeWhile_append_dropWhile
  rw [e] at e1
  refine ⟨A1, e1, e2, ⟨?_, ?_, ?_, ?_⟩⟩
  · rw [e3, qMark_len]; exact Nat.le_trans hB.items (by decide)
  · rcases e4 with e4 | ⟨e4, _⟩ <;> rw [e4] <;> simp
  · intro x hx
    rcases e4 with e4 | ⟨e4, _⟩
    · rw [e4] at hx
      obtain rfl := List.mem_singleton.1 hx
      exact Nat.le_trans (h.2.len hB) (by decide)
    · rw [e4] at hx; cases hx
  · rw [e5]
    have := hB.given
    unfold I64
    omega
theorem prRow_at {A : Option Addr} {n c : Nat} {l : List (Int × Int)} {e : TypeId} {W : World} {F : Nat → Prop} (h : (row e 2 (.slice A n c) l.length (prCells l)).P W F) : PrAt W A l := by
  obtain ⟨A', c', e, ha⟩ := pr_at h
  injection e with e1 _ _
  rw [e1]
  exact ha
theorem vRow_at {A : Option Addr} {n c : Nat} {l : List QI} {W : World} {F : Nat → Prop} (h : (vRow (.slice A n c) l).P W F) : U64At W A (l.map (·.val)) := by
  obtain ⟨A', c', e, ha⟩ := v_at h
  injection e with e1 _ _
  rw [e1]
  exact ha
/-- As, and what it leaves -/
theorem St.as {w W : World} {F : Nat → Prop} {l : List Part} (h : St w F W l) (A I : Option Addr) (c ni ci n : Nat) (ps : List (Int × Int)) (nx : Int) (hn : n = ps.length) (hA : PrAt W A ps) (hll : n ≤ 1000) :
    Calls Try.prog 18 #[.agg #[.slice A n c, .slice I ni ci, .int .i64 nx]] W (fun e W' => ∃ B d, e = .returned (.agg #[.slice B n d, .slice I ni ci, .int .i64 nx]) ∧ St w F W' (p2Row (.slice B n d) ps :: l)) := by
  refine (h.fresh (as_calls W A I c ni ci n ps nx hn hA hll)).mono ?_
  rintro e W' ⟨l', ⟨p, rfl, rfl⟩, hst⟩
  obtain ⟨B, d, rfl, _, _⟩ := row_form hst.1.head.1
  rw [← hn] at hst ⊢
  exact ⟨B, d, rfl, hst⟩
def FinS (ad : Addr) (i : Nat) (PA : Option Addr) (np pc : Nat) (VA : Option Addr) (nv vc : Nat) (nx : Int) (W : World) : Prop := W.cell? (ad.add (i * 3)) = some (.slice PA np pc) ∧ W.cell? ⟨(ad.add (i * 3)).block, (ad.add (i * 3)).off + 1, none⟩ = some (.slice VA nv vc) ∧ W.cell? ⟨(ad.add (i * 3)).block, (ad.add (i * 3)).off + 2, none⟩ = some (.int .i64 nx)
def taskAt (l : List Tk) (k : Nat) : Tk := l.getD k ([], false, false)
set_option maxRecDepth 200000 in
set_option maxHeartbeats 32000000 in
theorem topredo_calls (w : World) (l : List Tk) (A : Option Addr) (c : Nat) (n : Int) (h : taskK.C w A l.length l) (hg : ∀ x ∈ l, TkG x) (hn : -9223372036854775808 ≤ n ∧ n ≤ 9223372036854775807) :
    Calls Try.prog 3 #[.slice A l.length c, .int .i64 n] w (Yes w) := by
  have HL := Aside0.mk h
  have HG := Aside0.mk hg
  have HNB := Aside0.mk hn
  obtain ⟨m, hm⟩ : ∃ m, m = l.length := ⟨_, rfl⟩
  have HM := Aside0.mk hm
  have hml : m ≤ 9223372036854775807 := by rw [hm]; exact h.2.1
  rw [← hm] at HL ⊢
  have I1 : Aside0 (I64 1) := ⟨by unfold I64; omega⟩
  have I2 : Aside0 (I64 2) := ⟨by unfold I64; omega⟩
  clear h hg hn hm
  go_enter Try.func3, Try.ntmps3
  go_wp2_with fail
  refine (new_good w 65536 (by decide) (by decide)).mono ?_
  rintro e W1 ⟨rfl, ht1, hb1⟩
  obtain ⟨p, hp⟩ : ∃ p, p = w.heap.size := ⟨_, rfl⟩
  have HT1 : Aside0 (TapeAt W1 p ⟨65536, [], 0⟩ (fun k => w.heap.size ≤ k ∧ k < W1.heap.size)) := ⟨by rw [hp]; exact ht1.mono (fun k h hl => ⟨h, hl⟩)⟩
  have HB1 := Aside0.mk hb1
  rw [← hp]
  clear ht1 hb1 hp
  have HO := Aside0.mk (open_calls W1 p _ _ HT1.out)
  go_wp2_with fail
  refine HO.out.mono ?_
  intro e W2 hret
  obtain ⟨q, C, c2, rfl, hst⟩ := St.open0 HB1.out HT1.out (fun k hk => hk) hret
  have hto : TS.opened ⟨65536, [], 0⟩ = ⟨65536, [], 0⟩ ∧ recsOf [] = [] := ⟨by unfold TS.opened recsOf; dsimp only; rw [readL_nil]; rfl, by unfold recsOf; rw [readL_nil]; rfl⟩
  dsimp only at hst ⊢
  rw [hto.1, hto.2] at hst
  rw [hto.2]
  have HST2 : Aside0 (St w (fun _ => False) W2 [lgP q p ⟨65536, [], 0⟩ (recsC [])]) := ⟨hst⟩
  clear hret hst hto HO
  go_wp2_with fail
  refine (rnew_calls W2).mono ?_
  rintro e W3 ⟨rfl, rfl⟩
  obtain ⟨b, hb⟩ : ∃ b, b = W2.heap.size := ⟨_, rfl⟩
  have HST3 : Aside0 (St w (fun _ => False) (W2.alloc raw0.obj) (rsL b raw0 [] [] RS.new ++ [lgP q p ⟨65536, [], 0⟩ (recsC [])])) := ⟨by rw [hb]; exact rs_new (HST2.out.alloc raw0.obj)⟩
  rw [← hb]
  generalize W2.alloc raw0.obj = W3 at HST3 ⊢
  have HI := Aside0.mk (HST3.out.call (fun F1 g1 => rimage_calls W3 F1 b raw0 [] [] RS.new raw0_is g1 new_idle.small))
  clear hb HST2
  go_wp2_with fail
  refine HI.out.mono ?_
  rintro e W4 ⟨l', ⟨pv, iv, rfl, rfl⟩, hst⟩
  obtain ⟨PA, pc, rfl, _, _⟩ := row_form ((hst.1.pick [9] (by decide)).one).1
  obtain ⟨VA, vc, rfl, _, _⟩ := row_form ((hst.1.pick [10] (by decide)).one).1
  obtain ⟨nx0, hnx0⟩ : ∃ nx0, nx0 = RS.new.image.next := ⟨_, rfl⟩
  have HST5 : Aside0 (St w (fun _ => False) (W4.alloc (.cells #[.slice PA RS.new.image.pairs.length pc, .slice VA RS.new.qu.items.length vc, .int .i64 nx0] 36)) (imRow (.slice (some ⟨W4.heap.size, 0, none⟩) 1 1) [((.slice PA RS.new.image.pairs.length pc, .slice VA RS.new.qu.items.length vc), RS.new)] :: imObjs [((.slice PA RS.new.image.pairs.length pc, .slice VA RS.new.qu.items.length vc), RS.new)] :: [lgP q p ⟨65536, [], 0⟩ (recsC []), sepP (rsL b raw0 [] [] RS.new)])) := ⟨by
    have h1 := hst.alloc (.cells #[.slice PA RS.new.image.pairs.length pc, .slice VA RS.new.qu.items.length vc, .int .i64 nx0] 36)
    have h2 := h1.pick [1, 2, 3, 4, 5, 6, 7, 8, 9, 0, 10, 11, 12] (by decide)
    have h3 : St w (fun _ => False) _ (sepP (rsL b raw0 [] [] RS.new) :: _) := ⟨Sep.nest h2.1, h2.2⟩
    have h4 := h3.pick [1, 2, 3, 4, 0] (by decide)
    rw [hnx0] at h4 ⊢
    exact St.im_first h4⟩
  obtain ⟨M0, hM0⟩ : ∃ M0 : ImM, M0 = [((.slice PA RS.new.image.pairs.length pc, .slice VA RS.new.qu.items.length vc), RS.new)] := ⟨_, rfl⟩
  rw [← hM0] at HST5
  have HMO : Aside0 (MOk M0 []) := ⟨by
    rw [hM0]
    refine ⟨rfl, fun k hk => ?_⟩
    have hk0 : k = 0 := by simpa using hk
    subst hk0
    exact ⟨_, rfl, rfl⟩⟩
  rw [← hnx0]
  clear hst HI HST3 hM0 hnx0
  generalize RS.new.image.pairs.length = np at HST5 ⊢
  generalize RS.new.qu.items.length = nv at HST5 ⊢
  go_wp2_with fail
  generalize W4.heap.size = b4 at HST5 ⊢
  generalize World.alloc _ _ = W5 at HST5 ⊢
  have HST6 : Aside0 (St w (fun _ => False) W5 ([imRow (.slice (some ⟨b4, 0, none⟩) 1 1) M0, imObjs M0, lgP q p ⟨65536, [], 0⟩ (recsC [])] ++ rsL b raw0 [] [] RS.new)) := ⟨by
    have h1 := HST5.out.pick [3, 0, 1, 2] (by decide)
    have h2 : St w (fun _ => False) W5 (rsL b raw0 [] [] RS.new ++ [imRow (.slice (some ⟨b4, 0, none⟩) 1 1) M0, imObjs M0, lgP q p ⟨65536, [], 0⟩ (recsC [])]) := ⟨h1.1.flat, h1.2⟩
    exact h2.pick [9, 10, 11, 0, 1, 2, 3, 4, 5, 6, 7, 8] (by decide)⟩
  clear HST5
  go_loopw [11, 12, 13] (fun v11 v12 v13 wr => ∃ (i sure ic : Nat) (IA : Option Addr) (r : Raw) (K : KM) (Q : QM) (cs : List (List Ch)) (t : TS) (M : ImM), i ≤ m ∧ i ≤ 12 ∧ cs.length ≤ i ∧ sure ≤ cs.length ∧ v11 = .slice IA (cs.length + 1) ic ∧ v12 = .int .i64 sure ∧ v13 = .int .i64 i ∧
    Aside0 (Fine cs ∧ MOk M cs ∧ RsIs r K Q (stAt cs cs.length)) ∧ Aside0 (t.bs = allB (recsC cs) ∧ t.room = 65536 ∧ t.forced = (allB (recsC (cs.take sure))).length) ∧
    Aside0 (St w (fun _ => False) wr ([imRow (.slice IA (cs.length + 1) ic) M, imObjs M, lgP q p t (recsC cs)] ++ rsL b r K Q (stAt cs cs.length)))) (fun _ _ v _ => 12 - (intOf v).toNat)
  case atStart => exact ⟨0, 0, 1, some ⟨b4, 0, none⟩, raw0, [], [], [], ⟨65536, [], 0⟩, M0, by omega, by omega, by simp, by simp, rfl, rfl, rfl, ⟨(fun k hk => by simp at hk), HMO.out, raw0_is⟩, ⟨rfl, rfl, rfl⟩, HST6⟩
  case round =>
    obtain ⟨i, sure, ic, IA, r, K, Q, cs, t, M, hi, hi2, hcs, hsu, rfl, rfl, rfl, HF, HT, HST⟩ := hrel
    by_cases hgo : i < m ∧ i < 12
    · have hlt1 : (i : Int) < (m : Int) := by omega
      have hlt2 : (i : Int) < 12 := by omega
      have hil : i < l.length := by rw [← HM.out]; exact hgo.1
      have hbel : Below w.heap.size w wr := HST.out.2.below (fun _ h => h)
      obtain ⟨ad, B, c3, e3, k0, k1, k2, hcap, hch⟩ := task_at (Kd.C_below HL.out hbel) hgo.1 ([], false, false)
      subst e3
      have hkeep : ∀ W, Below w.heap.size w W → W.cell? ⟨(ad.add (i * 3)).block, (ad.add (i * 3)).off + 1, none⟩ = some (.bool (taskAt l i).2.1) ∧ W.cell? ⟨(ad.add (i * 3)).block, (ad.add (i * 3)).off + 2, none⟩ = some (.bool (taskAt l i).2.2) ∧ ChAt W B ((taskAt l i).1.map toCh) := fun W hW => by
        obtain ⟨ad', B', c', e', q0, q1, q2, _, hq⟩ := task_at (Kd.C_below HL.out hW) hgo.1 ([], false, false)
        injection e' with e'
        subst e'
        obtain ⟨ad0, B0, c0, e0, p0, _, _, _, _⟩ := task_at HL.out hgo.1 ([], false, false)
        injection e0 with e0
        subst e0
        have p1 := cell_below p0 hbel
        have p2 := cell_below p0 hW
        rw [k0] at p1
        rw [q0] at p2
        injection p1 with p1
        injection p1 with p1 _ _
        injection p2 with p2
        injection p2 with p2 _ _
        have hBB : B' = B := p2.trans p1.symm
        subst hBB
        exact ⟨q1, q2, ch_at hq⟩
      have hcl : (taskAt l i).1.length ≤ 9223372036854775807 := hch.2.1
      have hu64 : ∀ x ∈ (taskAt l i).1.map toCh, U64 x.val := fun x hx => by
        obtain ⟨y, hy, rfl⟩ := List.mem_map.1 hx
        refine C3G.u64 ((HG.out (taskAt l i) ?_).1.1 y hy)
        unfold taskAt
        rw [List.getD_eq_getElem?_getD, List.getElem?_eq_getElem hil]
        exact List.getElem_mem hil
      obtain ⟨o, ho⟩ : ∃ o, o = taskAt l i := ⟨_, rfl⟩
      change wr.cell? _ = some (.slice B (taskAt l i).1.length c3) at k0
      change wr.cell? _ = some (.bool (taskAt l i).2.1) at k1
      change wr.cell? _ = some (.bool (taskAt l i).2.2) at k2
      rw [← ho] at k0 k1 k2 hkeep hcl hu64
      obtain ⟨tl, cm, fc⟩ := o
      dsimp only at k0 k1 k2 hkeep hcl hu64
      have HKEEP := Aside0.mk hkeep
      obtain ⟨xs, hxs⟩ : ∃ xs, xs = tl.map toCh := ⟨_, rfl⟩
      have hxl : tl.length = xs.length := by rw [hxs, List.length_map]
      rw [← hxs] at HKEEP hu64
      rw [hxl] at k0 hcl
      have HD : Aside0 (Calls Try.prog 8 #[taskV B xs.length c3 cm fc, .pointer (some ⟨b, 0, none⟩)] wr (fun e W' => ∃ l', DoR b (stAt cs cs.length) e l' ∧ St w (fun _ => False) W' (l' ++ [imRow (.slice IA (cs.length + 1) ic) M, imObjs M, lgP q p t (recsC cs)]))) := ⟨St.call_rd (fun W => ChAt W B xs) (HST.out.pick [3, 4, 5, 6, 7, 8, 9, 10, 11, 0, 1, 2] (by decide)) (fun W' hst => (HKEEP.out W' (hst.2.below (fun _ h => h))).2.2) (fun F1 g1 hH => tkdo_calls wr F1 b r K Q (stAt cs cs.length) xs B c3 cm fc (HF.out.1.idle _ (Nat.le_refl _)) HF.out.2.2 g1 hH (by unfold maxLen; exact hcl) hu64)⟩
      obtain ⟨xn, hxn⟩ : ∃ xn, xn = xs.length := ⟨_, rfl⟩
      rw [← hxn] at k0 HD
      unfold taskV at HD
      have HLK : Aside0 (i ≤ 12 ∧ cs.length ≤ 12) := ⟨by omega⟩
      clear hch hcap ho hil hkeep hxl hxs hu64 hcl hxn hbel
      go_wp2_with fail
      refine HD.out.mono ?_
      rintro e W2 ⟨l', ⟨v, r2, K2, Q2, lk, lq, s1, rfl, h2, hg2, hq2, hcm2, hbo2, hsm2, rfl⟩, hst⟩
      have HST2 := Aside0.mk hst
      have HIS2 := Aside0.mk h2
      have HFIT : Aside0 (chGood lk ∧ QFit (stAt cs cs.length) lq ∧ s1.qu.small) := ⟨hg2, hq2, hsm2⟩
      have HCM := Aside0.mk hcm2
      have HBO := Aside0.mk hbo2
      obtain ⟨A2, c2, rfl, _, _, hat⟩ := chRow_form hst.1.head
      obtain ⟨f1, f2, _⟩ := HKEEP.out W2 (hst.2.below (fun _ h => h))
      have HAT := Aside0.mk hat
      clear hst h2 hg2 hq2 hcm2 hbo2 hsm2 HD k0 k1 k2 hat
      cases cm with
      | false =>
        as_aux_lemma =>
          have HBK : Aside0 _ := ⟨St.call (HST2.out.pick [1, 2, 3, 4, 5, 6, 7, 8, 9, 10, 11, 12] (by decide)) (fun F1 g1 => rbackout_calls W2 F1 b r2 K2 Q2 s1 1 HIS2.out g1 I1.out HFIT.out.2.2)⟩
          unfold RsR at HBK
          rw [HBO.out] at HBK
          generalize (lk ++ lq).length = nl at HST2 ⊢
          go_wp2_with fail
          refine HBK.out.mono ?_
          rintro e W3 ⟨l', ⟨r3, K3, Q3, rfl, h3, rfl⟩, hst⟩
          have HST3 := Aside0.mk (hst.pick [9, 10, 11, 0, 1, 2, 3, 4, 5, 6, 7, 8] (by decide))
          have HIS3 := Aside0.mk h3
          clear hst h3 HBK
          go_wp2_with fail
          exact ⟨⟨i + 1, sure, ic, IA, r3, K3, Q3, cs, t, M, by omega, by omega, by omega, hsu, rfl, rfl, by go_num, ⟨HF.out.1, HF.out.2.1, HIS3.out⟩, HT, HST3⟩, by simp [intOf]; omega⟩
      | true =>
        as_aux_lemma =>
          have hidle := HF.out.1.idle cs.length (Nat.le_refl _)
          obtain ⟨sp1, sp2⟩ := split_kinds HFIT.out.1 HFIT.out.2.1
          have HSTEP : Aside0 (stepOk (stAt cs cs.length) (lk ++ lq)) := ⟨⟨by rw [sp1]; exact HFIT.out.1, by rw [sp2]; exact HFIT.out.2.1⟩⟩
          have HLST := Aside0.mk (stepOk.list hidle HSTEP.out)
          have HWR := Aside0.mk (HST2.out.fresh (reswrite_calls W2 (lk ++ lq) A2 c2 HAT.out HLST.out.1 HLST.out.2))
          have hst1 : (stAt cs cs.length).after lk lq = stAt (cs ++ [lk ++ lq]) ((cs ++ [lk ++ lq]).length) := by
            have e : (cs ++ [lk ++ lq]).length = cs.length + 1 := by simp
            rw [e, stAt_succ (by rw [e]; omega), stAt_snoc (Nat.le_refl _), List.getD_eq_getElem?_getD, List.getElem?_append_right (Nat.le_refl _), Nat.sub_self]
            show _ = (stAt cs cs.length).after (chFront (lk ++ lq)) (chRest (lk ++ lq))
            rw [sp1, sp2]
          have HNX := Aside0.mk hst1
          have HFN := Aside0.mk (HF.out.1.snoc HSTEP.out)
          obtain ⟨t2, ha1, ha2, ha3, ha4⟩ := add_rec (f := fc) HF.out.1 HSTEP.out HT.out.1 HT.out.2.1 HLK.out.2 hsu HT.out.2.2
          have HA1 := Aside0.mk ha1
          have HA2 : Aside0 (t2.bs = allB (recsC (cs ++ [lk ++ lq])) ∧ t2.room = 65536 ∧ t2.forced = (allB (recsC ((cs ++ [lk ++ lq]).take (if fc then cs.length + 1 else sure)))).length) := ⟨ha2, ha3, ha4⟩
          obtain ⟨ll, hll⟩ : ∃ ll, ll = lk ++ lq := ⟨_, rfl⟩
          rw [← hll] at HWR HLST HNX HFN HA1 HA2 HST2 HAT HSTEP
          rw [← hll]
          generalize ll.length = nl at HST2 HWR ⊢
          clear hidle sp1 sp2 hst1 ha1 ha2 ha3 ha4 hll
          go_wp2_with fail
          refine HWR.out.mono ?_
          rintro e W3 ⟨l', ⟨v3, rfl, rfl⟩, hst⟩
          obtain ⟨A3, c3', rfl, hcap3, _, _⟩ := (bRow_q hst.1.head).form
          have HST3 : Aside0 (St w (fun _ => False) W3 (lgP q p t (recsC cs) :: [bRow (.slice A3 (wrB ll).length c3') (wrB ll), sepP (rsL b r2 K2 Q2 s1), imRow (.slice IA (cs.length + 1) ic) M, imObjs M])) := ⟨by
            have h1 := hst.pick [2, 3, 4, 5, 6, 7, 8, 9, 10, 13, 0, 11, 12] (by decide)
            have h2 : St w (fun _ => False) W3 (sepP (rsL b r2 K2 Q2 s1) :: [lgP q p t (recsC cs), bRow (.slice A3 (wrB ll).length c3') (wrB ll), imRow (.slice IA (cs.length + 1) ic) M, imObjs M]) := ⟨Sep.nest h1.1, h1.2⟩
            exact h2.pick [1, 2, 0, 3, 4] (by decide)⟩
          obtain ⟨f3, f4, _⟩ := HKEEP.out W3 (hst.2.below (fun _ h => h))
          have HAD := Aside0.mk (HST3.out.add (5, wrB ll) A3 c3' fc (fun w F W' h => bRow_C h.1.head) hcap3 (wrB_bytes HLST.out.2) (by show (recsC cs).length ≤ 1000000; unfold recsC; rw [List.length_map]; have := HLK.out.2; omega))
          rw [HA1.out] at HAD
          dsimp only at HAD
          obtain ⟨nb, hnb⟩ : ∃ nb, nb = (wrB ll).length := ⟨_, rfl⟩
          rw [← hnb] at HAD
          rw [← hnb]
          clear hst hcap3 HWR f1 f2 hnb
          go_wp2_with fail
          refine HAD.out.mono ?_
          rintro e W4 ⟨rfl, hst⟩
          have HCC : Aside0 _ := ⟨St.call (l1 := rsL b r2 K2 Q2 s1) (l2 := [lgP q p t2 (recsC (cs ++ [ll])), imRow (.slice IA (cs.length + 1) ic) M, imObjs M]) (by
            have h1 := hst.pick [2, 0, 3, 4] (by decide)
            exact ⟨h1.1.flat, h1.2⟩) (fun F1 g1 => rcommit_calls W4 F1 b r2 K2 Q2 s1 1 HIS2.out g1 I1.out HFIT.out.2.2)⟩
          unfold RsR at HCC
          rw [HCM.out] at HCC
          clear hst HAD f3 f4 HST3 HST2
          go_wp2_with fail
          refine HCC.out.mono ?_
          rintro e W5 ⟨l', ⟨r5, K5, Q5, rfl, h5, rfl⟩, hst⟩
          rw [HNX.out] at h5 hst
          have HIS5 := Aside0.mk h5
          have hid2 := HFN.out.idle _ (Nat.le_refl _)
          have HIM := Aside0.mk (hst.call (fun F1 g1 => rimage_calls W5 F1 b r5 K5 Q5 _ HIS5.out g1 hid2.small))
          obtain ⟨B2, hB2⟩ : ∃ B2, B2 = stAt (cs ++ [ll]) ((cs ++ [ll]).length) := ⟨_, rfl⟩
          rw [← hB2] at HIM HIS5
          have HB2 := Aside0.mk hB2
          clear hst h5 hid2 HCC HBO HCM hB2
          go_wp2_with fail
          refine HIM.out.mono ?_
          rintro e W6 ⟨l', ⟨pv6, iv6, rfl, rfl⟩, hst⟩
          obtain ⟨PA6, pc6, rfl, _, _⟩ := row_form ((hst.1.pick [9] (by decide)).one).1
          obtain ⟨VA6, vc6, rfl, _, _⟩ := row_form ((hst.1.pick [10] (by decide)).one).1
          obtain ⟨nx6, hnx6⟩ : ∃ nx6, nx6 = B2.image.next := ⟨_, rfl⟩
          obtain ⟨np6, hnp6⟩ : ∃ np6, np6 = B2.image.pairs.length := ⟨_, rfl⟩
          obtain ⟨nv6, hnv6⟩ : ∃ nv6, nv6 = B2.qu.items.length := ⟨_, rfl⟩
          rw [← hnp6, ← hnv6] at hst
          rw [← hnx6, ← hnp6, ← hnv6]
          have hml2 : M.length = cs.length + 1 := HF.out.2.1.1
          have HST7 : Aside0 (St w (fun _ => False) (W6.alloc (.cells [.slice PA6 np6 pc6, .slice VA6 nv6 vc6, Value.int .i64 nx6].toArray 36)) (row 36 3 (.slice IA (cs.length + 1) ic) (cs.length + 1) (imC M) :: [pt W6.heap.size (.cells [.slice PA6 np6 pc6, .slice VA6 nv6 vc6, Value.int .i64 nx6].toArray 36 (0, 0)), imObjs M, prRow (.slice PA6 np6 pc6) B2.image.pairs, vRow (.slice VA6 nv6 vc6) B2.qu.items, lgP q p t2 (recsC (cs ++ [ll])), sepP (rsL b r5 K5 Q5 B2)])) := ⟨by
            have h1 := (hst.alloc (.cells [.slice PA6 np6 pc6, .slice VA6 nv6 vc6, Value.int .i64 nx6].toArray 36)).pick [1, 2, 3, 4, 5, 6, 7, 8, 9, 13, 0, 14, 10, 11, 12] (by decide)
            have h2 : St w (fun _ => False) _ (sepP (rsL b r5 K5 Q5 B2) :: [imRow (.slice IA (cs.length + 1) ic) M, pt W6.heap.size (.cells [.slice PA6 np6 pc6, .slice VA6 nv6 vc6, Value.int .i64 nx6].toArray 36 (0, 0)), imObjs M, prRow (.slice PA6 np6 pc6) B2.image.pairs, vRow (.slice VA6 nv6 vc6) B2.qu.items, lgP q p t2 (recsC (cs ++ [ll]))]) := ⟨Sep.nest h1.1, h1.2⟩
            have h3 := h2.pick [1, 2, 3, 4, 5, 6, 0] (by decide)
            unfold imRow at h3
            rw [hml2] at h3
            exact h3⟩
          have HNN : Aside0 (nx6 = B2.image.next ∧ np6 = B2.image.pairs.length ∧ nv6 = B2.qu.items.length ∧ M.length = cs.length + 1) := ⟨hnx6, hnp6, hnv6, hml2⟩
          obtain ⟨f5, f6, _⟩ := HKEEP.out W6 (hst.2.below (fun _ h => h))
          have hcl12 := HLK.out.2
          clear hst HIM hnx6 hnp6 hnv6 hml2
          have HONE : Aside0 (∀ u ∈ [.slice PA6 np6 pc6, .slice VA6 nv6 vc6, Value.int .i64 nx6], u.oneCell' = true) := ⟨by intro u hu; simp at hu; rcases hu with rfl | rfl | rfl <;> rfl⟩
          obtain ⟨kc, hkc⟩ : ∃ kc, kc = cs.length + 1 := ⟨_, rfl⟩
          have HKC := Aside0.mk hkc
          rw [← hkc] at HST7
          have hkl : kc ≤ 13 := by omega
          rw [← hkc]
          clear hkc
          have HCS : Aside0 ((cs ++ [ll]).length = kc) := ⟨by rw [List.length_append, HKC.out]; rfl⟩
          have HEND : Aside0 (∀ (W : World) (v8 : Value), St w (fun _ => False) W [row 36 3 v8 (kc + 1) (imC M ++ [.slice PA6 np6 pc6, .slice VA6 nv6 vc6, .int .i64 nx6]), imObjs M, prRow (.slice PA6 np6 pc6) B2.image.pairs, vRow (.slice VA6 nv6 vc6) B2.qu.items, lgP q p t2 (recsC (cs ++ [ll])), sepP (rsL b r5 K5 Q5 B2)] →
              ∃ M', MOk M' (cs ++ [ll]) ∧ St w (fun _ => False) W ([imRow v8 M', imObjs M', lgP q p t2 (recsC (cs ++ [ll]))] ++ rsL b r5 K5 Q5 (stAt (cs ++ [ll]) (cs ++ [ll]).length))) := ⟨fun W v8 h => by
            refine ⟨M ++ [((.slice PA6 np6 pc6, .slice VA6 nv6 vc6), B2)], HF.out.2.1.snoc (by rw [HB2.out, List.length_append]; rfl), ?_⟩
            have e1 : kc + 1 = M.length + 1 := by rw [HKC.out, HNN.out.2.2.2]
            rw [e1, HNN.out.1] at h
            have h1 := St.im_step (g := emp) h
            have h2 := h1.pick [3, 0, 1, 2] (by decide)
            have h3 : St w (fun _ => False) W (rsL b r5 K5 Q5 B2 ++ _) := ⟨h2.1.flat, h2.2⟩
            rw [← HB2.out]
            exact h3.pick [9, 10, 11, 0, 1, 2, 3, 4, 5, 6, 7, 8] (by decide)⟩
          cases fc with
          | false =>
            as_aux_lemma =>
              go_wp2_with ((with_reducible refine gate_dst (N := 110) rfl ?_); at_builtin; refine wp_app1 rfl (.tmp 106) (.tmp 109) 38 36 (.agg #[.slice none 0 0, .slice none 0 0, .int .i64 0]) 3 56 info_im Try.underlying38 rfl (by decide) rfl (.slice IA kc ic) kc (imC M) [.slice PA6 np6 pc6, .slice VA6 nv6 vc6, Value.int .i64 nx6] _ 36 rfl rfl HST7.out.1.head.1 (HST7.out.pick [1] (by decide)).heap rfl HONE.out (by omega) (by decide) ?_; intro v8 w8 ho hg8 hn8; obtain ⟨A8, c8, rfl, _, _⟩ := row_form ho; have HST8 := Aside0.mk ((HST7.out.grown ho hg8 hn8).pick [0, 2, 3, 4, 5, 6] (by decide)); clear ho hg8 hn8; obtain ⟨f7, f8, _⟩ := HKEEP.out w8 (HST8.out.2.below (fun _ h => h)))
              obtain ⟨M', hm', hst'⟩ := HEND.out _ _ HST8.out
              have hk1 := HKC.out
              refine ⟨⟨i + 1, sure, c8, A8, r5, K5, Q5, cs ++ [ll], t2, M', by omega, by omega, by rw [HCS.out]; omega, by rw [HCS.out]; omega, by rw [HCS.out], rfl, by go_num, ⟨HFN.out, hm', by rw [← HB2.out]; exact HIS5.out⟩, ⟨HA2.out.1, HA2.out.2.1, HA2.out.2.2⟩, ⟨by rw [HCS.out] at hst' ⊢; exact hst'⟩⟩, by simp [intOf]; omega⟩
          | true =>
            as_aux_lemma =>
              go_wp2_with ((with_reducible refine gate_dst (N := 110) rfl ?_); at_builtin; refine wp_app1 rfl (.tmp 106) (.tmp 109) 38 36 (.agg #[.slice none 0 0, .slice none 0 0, .int .i64 0]) 3 56 info_im Try.underlying38 rfl (by decide) rfl (.slice IA kc ic) kc (imC M) [.slice PA6 np6 pc6, .slice VA6 nv6 vc6, Value.int .i64 nx6] _ 36 rfl rfl HST7.out.1.head.1 (HST7.out.pick [1] (by decide)).heap rfl HONE.out (by omega) (by decide) ?_; intro v8 w8 ho hg8 hn8; obtain ⟨A8, c8, rfl, _, _⟩ := row_form ho; have HST8 := Aside0.mk ((HST7.out.grown ho hg8 hn8).pick [0, 2, 3, 4, 5, 6] (by decide)); clear ho hg8 hn8; obtain ⟨f7, f8, _⟩ := HKEEP.out w8 (HST8.out.2.below (fun _ h => h)))
              obtain ⟨M', hm', hst'⟩ := HEND.out _ _ HST8.out
              have hk1 := HKC.out
              refine ⟨⟨i + 1, kc, c8, A8, r5, K5, Q5, cs ++ [ll], t2, M', by omega, by omega, by rw [HCS.out]; omega, by rw [HCS.out]; exact Nat.le_refl _, by rw [HCS.out], by go_num, by go_num, ⟨HFN.out, hm', by rw [← HB2.out]; exact HIS5.out⟩, ⟨HA2.out.1, HA2.out.2.1, by rw [hk1]; exact HA2.out.2.2⟩, ⟨by rw [HCS.out] at hst' ⊢; exact hst'⟩⟩, by simp [intOf]; omega⟩
    · have hok : t.ok := (LgP.to (show LgP q p t (recsC cs) wr _ from (HST.out.pick [2] (by decide)).1.one)).ok
      have hleft := TS.left_le hok n
      have hpre : recsC (cs.take sure) <+: recsC cs := by unfold recsC; exact (List.take_prefix _ _).map _
      obtain ⟨kk, kk1, kk2, kk3⟩ := found_front (fun r hr => (recsC_good HF.out.1 r hr).1) hpre (n := t.left n) (by rw [← HT.out.2.2]; exact hleft.1) (by rw [← HT.out.1]; exact hleft.2)
      have hrl : (recsC cs).length = cs.length := by unfold recsC; rw [List.length_map]
      have hsl : (recsC (cs.take sure)).length = sure := by unfold recsC; rw [List.length_map, List.length_take]; omega
      rw [hrl] at kk1
      rw [hsl] at kk2
      have hcb : recsOf (t.crash n).bs = (recsC cs).take kk := by
        have : (t.crash n).bs = (allB (recsC cs)).take (t.left n) := by unfold TS.crash; dsimp only; rw [HT.out.1]
        rw [this]; exact kk3
      have hkl : ((recsC cs).take kk).length = kk := by rw [List.length_take, hrl]; omega
      have HCB := Aside0.mk hcb
      have HKL := Aside0.mk hkl
      have HKK : Aside0 (kk ≤ cs.length ∧ cs.length ≤ 12) := ⟨by omega⟩
      have HCR := Aside0.mk (St.crash (HST.out.pick [2, 0, 1] (by decide)) n HNB.out)
      obtain ⟨kc, hkc⟩ : ∃ kc, kc = cs.length + 1 := ⟨_, rfl⟩
      have HKC := Aside0.mk hkc
      rw [← hkc] at HCR ⊢
      have hk12 : kk ≤ 12 := by omega
      have z1 : ¬ (kk : Int) < (sure : Int) := by omega
      have z2 : ¬ (kc : Int) ≤ (kk : Int) := by omega
      have z3 : (kk : Int) < (kc : Int) := by omega
      have hor : ¬ (i : Int) < (m : Int) ∨ ((i : Int) < (m : Int) ∧ ¬ (i : Int) < 12) := by omega
      clear hok hleft hpre kk1 kk2 kk3 hrl hsl hcb hkl hgo hkc hcs hsu HST
      rcases hor with hlt | ⟨hlt1, hlt2⟩
      all_goals
        go_wp2_with fail
        refine HCR.out.mono ?_
        rintro e W2 ⟨rfl, hst⟩
        have HFD := Aside0.mk hst.found
        rw [HCB.out, HKL.out] at HFD
        clear hst HCR
        go_wp2_with fail
        refine HFD.out.mono ?_
        rintro e W3 ⟨q3, FA3, c4, rfl, hst⟩
        have HST4 := Aside0.mk (rs_new (hst.alloc raw0.obj))
        clear hst HFD
        go_wp2_with fail
        refine (rnew_calls W3).mono ?_
        rintro e W4 ⟨rfl, rfl⟩
        generalize W3.heap.size = b2 at HST4 ⊢
        generalize W3.alloc raw0.obj = W4 at HST4 ⊢
        go_wp2_with fail
        go_loopw [22] (fun v22 wr => ∃ (i : Nat) (r : Raw) (K : KM) (Q : QM), i ≤ kk ∧ v22 = .int .i64 i ∧ Aside0 (RsIs r K Q (stAt cs i)) ∧ Aside0 (St w (fun _ => False) wr (rsL b2 r K Q (stAt cs i) ++ [fdP (.slice FA3 kk c4) ((recsC cs).take kk), imRow (.slice IA kc ic) M, imObjs M]))) (fun v _ => kk - (intOf v).toNat)
        case atStart => exact ⟨0, raw0, [], [], by omega, rfl, ⟨raw0_is⟩, HST4⟩
        case round =>
          obtain ⟨i, r, K, Q, hi, rfl, HIS, HST⟩ := hrel
          have hidle := HF.out.1.idle i (by have := HKK.out; omega)
          by_cases hlt : i < kk
          · as_aux_lemma =>
              have hlt' : (i : Int) < (kk : Int) := by omega
              have hic : i < cs.length := by have := HKK.out; omega
              have hfd : LR wr (New w (fun _ => False)) (.slice FA3 kk c4) ((recsC cs).take kk) := (HST.out.1.pick [9] (by decide)).one
              have hC := LR.C hfd (by rw [HKL.out]; have := HKK.out; omega)
              rw [HKL.out] at hC
              obtain ⟨ad3, B3, c5, e3, _, k1, hcap, hrd⟩ := rec_at hC hlt (0, [])
              subst e3
              rw [recs_get hlt HKK.out.1] at k1 hcap hrd
              dsimp only at k1 hcap hrd
              have hstep := HF.out.1 i hic
              have hsucc := stAt_succ hic
              obtain ⟨li, hli⟩ : ∃ li, li = cs.getD i [] := ⟨_, rfl⟩
              rw [← hli] at k1 hcap hrd hstep hsucc
              have hlst := stepOk.list hidle hstep
              obtain ⟨A1, r1, r2, r3⟩ := stepOk.redo hidle hstep
              rw [← hsucc] at r2
              have HR1 := Aside0.mk r1
              have HR2 := Aside0.mk r2
              have HR3 := Aside0.mk r3
              have HLST := Aside0.mk hlst
              have HIDLE := Aside0.mk hidle
              obtain ⟨N, hN⟩ : ∃ N, N = (wrB li).length := ⟨_, rfl⟩
              rw [← hN] at k1 hcap hrd
              have HRD := Aside0.mk (HST.out.fresh (resread_calls wr li B3 c5 N hN hrd hcap hlst.1 hlst.2))
              clear hfd hC hli hrd hstep hsucc hlst r1 r2 r3 hidle hN hcap hic
              go_wp2_with fail
              refine HRD.out.mono ?_
              rintro e W5 ⟨l', ⟨v5, rfl, rfl⟩, hst⟩
              obtain ⟨A5, c6, rfl, hc6, _, _⟩ := chRow_form hst.1.head
              have HRS : Aside0 (Calls Try.prog 15 #[.pointer (some ⟨b2, 0, none⟩), .int .i64 2, .slice A5 li.length c6] W5 (fun e W' => ∃ l', RsR b2 ((stAt cs i).restore 2 li) e l' ∧ St w (fun _ => False) W' (l' ++ [chRow (.slice A5 li.length c6) li, fdP (.slice (some ad3) kk c4) ((recsC cs).take kk), imRow (.slice IA kc ic) M, imObjs M]))) := ⟨St.call_rd (fun W => ChAt W A5 li) (hst.pick [1, 2, 3, 4, 5, 6, 7, 8, 9, 0, 10, 11, 12] (by decide)) (fun W' h => chRow_at h.1.head) (fun F1 g1 hH => rrestore_calls W5 F1 b2 r K Q (stAt cs i) 2 li A5 c6 HIS.out g1 I2.out hH (by have := HLST.out.1; omega) hc6 (fun c hc => (HLST.out.2 c hc).2.2.2.2) HIDLE.out.small (by rw [HIDLE.out.qworks]; simp))⟩
              rw [HR1.out] at HRS
              generalize li.length = nl at HRS ⊢
              clear hst hc6 HRD k1
              unfold RsR at HRS
              go_wp2_with fail
              refine HRS.out.mono ?_
              rintro e W6 ⟨l', ⟨r6, K6, Q6, rfl, h6, rfl⟩, hst⟩
              have HCC : Aside0 _ := ⟨St.call (l1 := rsL b2 r6 K6 Q6 A1) (l2 := [fdP (.slice (some ad3) kk c4) ((recsC cs).take kk), imRow (.slice IA kc ic) M, imObjs M]) (hst.pick [0, 1, 2, 3, 4, 5, 6, 7, 8, 10, 11, 12] (by decide)) (fun F1 g1 => rcommit_calls W6 F1 b2 r6 K6 Q6 A1 2 h6 g1 I2.out HR3.out)⟩
              unfold RsR at HCC
              rw [HR2.out] at HCC
              clear hst h6 HRS
              go_wp2_with fail
              refine HCC.out.mono ?_
              rintro e W7 ⟨l', ⟨r7, K7, Q7, rfl, h7, rfl⟩, hst⟩
              have HIS7 := Aside0.mk h7
              have HST7 := Aside0.mk hst
              clear hst h7 HCC
              go_wp2_with fail
              exact ⟨⟨i + 1, r7, K7, Q7, by omega, by go_num, HIS7, HST7⟩, by simp [intOf]; omega⟩
          · as_aux_lemma =>
              obtain rfl : i = kk := by omega
              have hlt' : ¬ (i : Int) < (i : Int) := by omega
              obtain ⟨x, hx1, hx2⟩ := HF.out.2.1.2 i HKK.out.1
              obtain ⟨⟨xv, yv⟩, B⟩ := x
              dsimp only at hx2
              subst hx2
              have hidl := HF.out.1.idle i HKK.out.1
              have HST9 : Aside0 (St w (fun _ => False) wr (imRow (.slice IA kc ic) M :: imObjs M :: [sepP (rsL b2 r K Q (stAt cs i))])) := ⟨by
                have h1 : St w (fun _ => False) wr (sepP (rsL b2 r K Q (stAt cs i)) :: _) := ⟨Sep.nest HST.out.1, HST.out.2⟩
                exact h1.pick [2, 3, 0] (by decide)⟩
              obtain ⟨PA, pc, VA, vc, exy, _, _⟩ := im_rows (HST9.out.1.pick [1] (by decide)).one hx1
              injection exy with ex ey
              dsimp only at ex ey
              subst ex ey
              obtain ⟨ps, hps⟩ : ∃ ps, ps = (stAt cs i).image.pairs := ⟨_, rfl⟩
              obtain ⟨vs, hvs⟩ : ∃ vs, vs = (stAt cs i).qu.items := ⟨_, rfl⟩
              obtain ⟨nx, hnx⟩ : ∃ nx, nx = (stAt cs i).image.next := ⟨_, rfl⟩
              obtain ⟨np, hnp⟩ : ∃ np, np = ps.length := ⟨_, rfl⟩
              obtain ⟨nv, hnv⟩ : ∃ nv, nv = vs.length := ⟨_, rfl⟩
              have hnp2 : np ≤ 1000 := by
                rw [hnp, hps]
                exact Nat.le_trans (KV.pairsTo_len (stAt cs i).kv 16) (by decide)
              have hnv2 : nv ≤ 1000 := by
                rw [hnv, hvs]
                exact Nat.le_trans hidl.items (by decide)
              have HCELL : Aside0 (∀ W l', St w (fun _ => False) W (imRow (.slice IA kc ic) M :: l') → ∃ ad, IA = some ad ∧ W.cell? (ad.add (i * 3)) = some (.slice PA np pc) ∧ W.cell? ⟨(ad.add (i * 3)).block, (ad.add (i * 3)).off + 1, none⟩ = some (.slice VA nv vc) ∧ W.cell? ⟨(ad.add (i * 3)).block, (ad.add (i * 3)).off + 2, none⟩ = some (.int .i64 nx)) := ⟨fun W l' h => by
                obtain ⟨ad, e, h0, h1, h2⟩ := im_cells h.1.head hx1
                dsimp only at h0 h1 h2
                rw [← hps, ← hnp] at h0
                rw [← hvs, ← hnv] at h1
                rw [← hnx] at h2
                exact ⟨ad, e, h0, h1, h2⟩⟩
              have HROWS : Aside0 (∀ W l', St w (fun _ => False) W (imRow (.slice IA kc ic) M :: imObjs M :: l') → PrAt W PA ps ∧ U64At W VA (vs.map (·.val))) := ⟨fun W l' h => by
                obtain ⟨P', c', V', d', e', h1, h2⟩ := im_rows h.1.tail.head hx1
                injection e' with e1 e2
                injection e1 with e1 _ _
                injection e2 with e2 _ _
                dsimp only at h1 h2
                rw [hps, hvs, e1, e2]
                exact ⟨h1, h2⟩⟩
              have HIMG : Aside0 (∀ W, St w (fun _ => False) W (imRow (.slice IA kc ic) M :: imObjs M :: [sepP (rsL b2 r K Q (stAt cs i))]) → Calls Try.prog 7 #[.pointer (some ⟨b2, 0, none⟩)] W (fun e W' => ∃ P c' V d', e = .returned (.agg #[.slice P np c', .slice V nv d', .int .i64 nx]) ∧ St w (fun _ => False) W' (imRow (.slice IA kc ic) M :: imObjs M :: [prRow (.slice P np c') ps, vRow (.slice V nv d') vs]))) := ⟨fun W h => by
                have h1 := h.pick [2, 0, 1] (by decide)
                have h2 : St w (fun _ => False) W (rsL b2 r K Q (stAt cs i) ++ [imRow (.slice IA kc ic) M, imObjs M]) := ⟨h1.1.flat, h1.2⟩
                refine (h2.call (fun F1 g1 => rimage_calls W F1 b2 r K Q (stAt cs i) HIS.out g1 hidl.small)).mono ?_
                rintro e W' ⟨l', ⟨pv, iv, rfl, rfl⟩, hst⟩
                obtain ⟨P, c', rfl, _, _⟩ := row_form ((hst.1.pick [9] (by decide)).one).1
                obtain ⟨V, d', rfl, _, _⟩ := row_form ((hst.1.pick [10] (by decide)).one).1
                have h3 := hst.pick [11, 12, 9, 10] (by decide)
                refine ⟨P, c', V, d', ?_, ?_⟩
                · rw [hnp, hnv, hps, hvs, hnx]
                · rw [hnp, hnv, hps, hvs]
                  exact h3⟩
              obtain ⟨ad, eI, q0, q1, q2⟩ := HCELL.out wr _ HST9.out
              subst eI
              have HS : Aside0 (∀ W l', St w (fun _ => False) W (imRow (.slice (some ad) kc ic) M :: l') → W.cell? (ad.add (i * 3)) = some (.slice PA np pc) ∧ W.cell? ⟨(ad.add (i * 3)).block, (ad.add (i * 3)).off + 1, none⟩ = some (.slice VA nv vc) ∧ W.cell? ⟨(ad.add (i * 3)).block, (ad.add (i * 3)).off + 2, none⟩ = some (.int .i64 nx)) := ⟨fun W l' h => by
                obtain ⟨ad', e, h0, h1, h2⟩ := HCELL.out W l' h
                injection e with e
                subst e
                exact ⟨h0, h1, h2⟩⟩
              have HSTD : Aside0 (St w (fun _ => False) wr.drew (imRow (.slice (some ad) kc ic) M :: imObjs M :: [sepP (rsL b2 r K Q (stAt cs i))])) := ⟨HST9.out.drew⟩
              have HNP := Aside0.mk hnp
              have HNV : Aside0 (nv = (vs.map (·.val)).length) := ⟨by rw [List.length_map]; exact hnv⟩
              have z4 : (i : Int) < (kc : Int) := z3
              clear hx1 hidl hps hvs hnx hnp hnv HST HIS HCELL HST9 q0 q1 q2 hlt
              go_wp2_with fail
              refine OctL.region_H (FinS ad i PA np pc VA nv vc nx) (by kernel_rfl) ?_
              refine OctE.with_env 185 [(11, .slice (some ad) kc ic), (19, .slice FA3 i c4), (21, .pointer (some ⟨b2, 0, none⟩))] (by kernel_rfl) rfl (by kernel_rfl) (fun a0 hE0 => ?_)
              refine OctE.anyE_one (i := 0) (d := 172) hE0 (by kernel_rfl) rfl rfl (by decide) (fun K' hK => ?_)
              have HKA := Aside0.mk hK
              clear hK
              refine OctE.step_callE hE0 (by kernel_rfl) 16 #[] #[] (by rfl) [] (by rfl) (by kernel_rfl) Try.f16 Try.func16 (by kernel_rfl) (by kernel_rfl) ?_
              refine (alive08_calls _).mono ?_
              rintro e wa ⟨rfl, hba⟩
              have HSTA := Aside0.mk (HSTD.out.below hba); clear hba; have hSA : FinS ad i PA np pc VA nv vc nx wa := HS.out _ _ HSTA.out
              refine ⟨_, rfl, ?_⟩
              refine HKA.out _ _ hSA (fun a1 hE1 => ?_)
              clear HKA K'
              refine OctE.anyE_at (i := 1) (d := 173) (v := .bool true) hE1 [(172, .bool true)] rfl rfl (by decide) (by kernel_rfl) (by kernel_rfl) (by kernel_rfl) (fun _ _ _ h => h) (by kernel_rfl) hSA (by kernel_rfl) (fun ev he W' hW' => by injection he with e1 _; exact ex_move rfl e1 W') (fun a2 hE2 => ?_)
              refine OctE.anyE_at (i := 2) (d := 174) (v := .pointer (some ⟨b2, 0, none⟩)) hE2 [(21, .pointer (some ⟨b2, 0, none⟩))] rfl rfl (by decide) (by kernel_rfl) (by kernel_rfl) (by kernel_rfl) (fun _ _ _ h => h) (by kernel_rfl) hSA (by kernel_rfl) (fun ev he W' hW' => by injection he with e1 _; exact ex_move rfl e1 W') (fun a3 hE3 => ?_)
              refine OctE.anyE_at (i := 5) (d := 177) (v := .slice (some ad) kc ic) hE3 [(11, .slice (some ad) kc ic)] rfl rfl (by decide) (by kernel_rfl) (by kernel_rfl) (by kernel_rfl) (fun _ _ _ h => h) (by kernel_rfl) hSA (by kernel_rfl) (fun ev he W' hW' => by injection he with e1 _; exact ex_move rfl e1 W') (fun a4 hE4 => ?_)
              refine OctE.anyE_at (i := 6) (d := 178) (v := .slice FA3 i c4) hE4 [(19, .slice FA3 i c4)] rfl rfl (by decide) (by kernel_rfl) (by kernel_rfl) (by kernel_rfl) (fun _ _ _ h => h) (by kernel_rfl) hSA (by kernel_rfl) (fun ev he W' hW' => by injection he with e1 _; exact ex_move rfl e1 W') (fun a5 hE5 => ?_)
              refine OctE.anyE_at (i := 7) (d := 179) (v := .int .i64 (i : Int)) hE5 [(178, .slice FA3 i c4)] rfl rfl (by decide) (by kernel_rfl) (by kernel_rfl) (by kernel_rfl) (fun _ _ _ h => h) (by kernel_rfl) hSA (by kernel_rfl) (fun ev he W' hW' => by injection he with e1 _; exact ex_len rfl e1 W') (fun a6 hE6 => ?_)
              refine OctE.anyE_at (i := 8) (d := 180) (v := .pointer (some (ad.add (i * 3)))) hE6 [(177, .slice (some ad) kc ic), (179, .int .i64 (i : Int))] rfl rfl (by decide) (by kernel_rfl) (by kernel_rfl) (by kernel_rfl) (fun _ _ _ h => h) (by kernel_rfl) hSA (by kernel_rfl) (fun ev he W' hW' => by injection he with e1 he; injection he with e2 _; exact ex_index rfl e1 e2 z4 W') (fun a7 hE7 => ?_)
              refine OctE.anyE_at (i := 9) (d := 181) (v := .agg #[.slice PA np pc, .slice VA nv vc, .int .i64 nx]) hE7 [(180, .pointer (some (ad.add (i * 3))))] rfl rfl (by decide) (by kernel_rfl) (by kernel_rfl) (by kernel_rfl) (fun _ _ _ h => h) (by kernel_rfl) hSA (by kernel_rfl) (fun ev he W' hW' => by injection he with e1 _; exact ex_load rfl e1 W' hW'.1 hW'.2.1 hW'.2.2) (fun a8 hE8 => ?_)
              refine OctE.anyE_one (i := 3) (d := 175) hE8 (by kernel_rfl) rfl rfl (by decide) (fun K' hK => ?_)
              have HKA := Aside0.mk hK
              clear hK
              refine OctE.step_callE hE8 (by kernel_rfl) 7 #[.tmp 174] #[31] (by rfl) [(174, .pointer (some ⟨b2, 0, none⟩))] (by rfl) (by kernel_rfl) Try.f7 Try.func7 (by kernel_rfl) (by kernel_rfl) ?_
              refine (HIMG.out _ HSTA.out).mono ?_
              rintro e wb ⟨P6, c6, V6, d6, rfl, hst⟩
              have HSTB := Aside0.mk hst; clear hst; have hSB : FinS ad i PA np pc VA nv vc nx wb := HS.out _ _ HSTB.out
              refine ⟨_, rfl, ?_⟩
              refine HKA.out _ _ hSB (fun a9 hE9 => ?_)
              clear HKA K'
              refine OctE.anyE_one (i := 4) (d := 176) hE9 (by kernel_rfl) rfl rfl (by decide) (fun K' hK => ?_)
              have HKA := Aside0.mk hK
              clear hK
              refine OctE.step_callE hE9 (by kernel_rfl) 18 #[.tmp 175] #[36] (by rfl) [(175, .agg #[.slice P6 np c6, .slice V6 nv d6, .int .i64 nx])] (by rfl) (by kernel_rfl) Try.f18 Try.func18 (by kernel_rfl) (by kernel_rfl) ?_
              refine (HSTB.out.as P6 V6 c6 nv d6 np ps nx HNP.out (prRow_at (HSTB.out.1.pick [2] (by decide)).one) hnp2).mono ?_
              rintro e wc ⟨B6, b6, rfl, hst⟩
              have HSTC := Aside0.mk (hst.pick [1, 2, 0, 4] (by decide)); clear hst; have hSC : FinS ad i PA np pc VA nv vc nx wc := HS.out _ _ HSTC.out
              refine ⟨_, rfl, ?_⟩
              refine HKA.out _ _ hSC (fun a10 hE10 => ?_)
              clear HKA K'
              refine OctE.anyE_one (i := 10) (d := 182) hE10 (by kernel_rfl) rfl rfl (by decide) (fun K' hK => ?_)
              have HKA := Aside0.mk hK
              clear hK
              refine OctE.step_callE hE10 (by kernel_rfl) 18 #[.tmp 181] #[36] (by rfl) [(181, .agg #[.slice PA np pc, .slice VA nv vc, .int .i64 nx])] (by rfl) (by kernel_rfl) Try.f18 Try.func18 (by kernel_rfl) (by kernel_rfl) ?_
              refine (HSTC.out.as PA VA pc nv vc np ps nx HNP.out (HROWS.out _ _ HSTC.out).1 hnp2).mono ?_
              rintro e wd ⟨B7, b7, rfl, hst⟩
              have HSTE := Aside0.mk (hst.pick [1, 2, 3, 4, 0] (by decide)); clear hst; have hSE : FinS ad i PA np pc VA nv vc nx wd := HS.out _ _ HSTE.out
              refine ⟨_, rfl, ?_⟩
              refine HKA.out _ _ hSE (fun a11 hE11 => ?_)
              clear HKA K'
              refine OctE.anyE_one (i := 11) (d := 183) hE11 (by kernel_rfl) rfl rfl (by decide) (fun K' hK => ?_)
              have HKA := Aside0.mk hK
              clear hK
              refine OctE.step_callE hE11 (by kernel_rfl) 17 #[.tmp 176, .tmp 182] #[58, 58] (by rfl) [(176, .agg #[.slice B6 np b6, .slice V6 nv d6, .int .i64 nx]), (182, .agg #[.slice B7 np b7, .slice VA nv vc, .int .i64 nx])] (by rfl) (by kernel_rfl) Try.f17 Try.func17 (by kernel_rfl) (by kernel_rfl) ?_
              refine (same15_calls _ B6 B7 V6 VA b6 b7 d6 vc np nv ps (vs.map (·.val)) nx HNP.out HNV.out (prRow_at (HSTE.out.1.pick [2] (by decide)).one) (prRow_at (HSTE.out.1.pick [4] (by decide)).one) (vRow_at (HSTE.out.1.pick [3] (by decide)).one) (HROWS.out _ _ HSTE.out).2 hnp2 hnv2).mono ?_
              rintro e we ⟨rfl, hbe⟩
              have HSTF := Aside0.mk (HSTE.out.below hbe); clear hbe; have hSF : FinS ad i PA np pc VA nv vc nx we := HS.out _ _ HSTF.out
              refine ⟨_, rfl, ?_⟩
              refine HKA.out _ _ hSF (fun a12 hE12 => ?_)
              clear HKA K'
              refine OctE.anyE_at (i := 12) (d := 184) (v := .bool true) hE12 [(173, .bool true), (183, .bool true)] rfl rfl (by decide) (by kernel_rfl) (by kernel_rfl) (by kernel_rfl) (fun _ _ _ h => h) (by kernel_rfl) hSF (by kernel_rfl) (fun ev he W' hW' => by injection he with e1 he; injection he with e2 _; exact ex_pick rfl e1 e2 W') (fun a13 hE13 => ?_)
              refine OctE.anyE_at (i := 13) (d := 4) (v := .bool true) hE13 [(184, .bool true)] rfl rfl (by decide) (by kernel_rfl) (by kernel_rfl) (by kernel_rfl) (fun _ _ _ h => h) (by kernel_rfl) hSF (by kernel_rfl) (fun ev he W' hW' => by injection he with e1 _; exact ex_assign rfl e1 W') (fun a14 hE14 => ?_)
              refine wpAnyH_done (by kernel_rfl) ?_ _
              have e4 := hE14.get (k := 4) (v := .bool true) rfl
              have e5 := hE14.eval (k := 4) (v := .bool true) rfl
              have ed := hE14.2.2
              clear hE0 hE1 hE2 hE3 hE4 hE5 hE6 hE7 hE8 hE9 hE10 hE11 hE12 hE13 hE14
              go_wp2_with fail
              refine bodyPost_ret (v := .bool true) (by simp [results, Try.results3, go_sem, e4]) ed ?_
              exact ⟨rfl, HSTF.out.2.below (fun _ h => h)⟩
end Go.Proofs.Ytobljkhidgbeoaa.Oct
