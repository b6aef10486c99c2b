
import Derived.Test.YtobljkhidgbeoaaZ30
import Derived.Test.YtobljkhidgbeoaaZ31
/- TopRedo: alive08, Task.do. -/
namespace Go.Proofs.Ytobljkhidgbeoaa.Oct
open Go.RowKit Go.Proofs.YtobljkhidgbeoaaW.PrintWords Go.Proofs.Ytobljkhidgbeoaa.M
set_option linter.unusedVariables false
set_option linter.unusedSimpArgs false
theorem chKinds_len : ∀ (l : List Ch), (∀ c ∈ l, c.kind = 3 ∨ c.kind = 4) → l.length = chPuts l + chTakes l
  | [], _ => rfl
  | c :: l, h => by
    rw [chPuts_cons, chTakes_cons, List.length_cons, chKinds_len l (fun d hd => h d (List.mem_cons_of_mem _ hd))]
    rcases h c List.mem_cons_self with e | e <;> rw [e] <;> simp <;> omega
theorem QFit.len {B : RS} {lq : List Ch} (hB : B.idle) (h : QFit B lq) : lq.length ≤ 32 := by
  rw [chKinds_len lq (fun c hc => (h.kinds c hc).imp (fun h => h.1) (fun h => h.1))]
  have h1 := qRight_takes lq 0 (Nat.zero_le _) h.right
  have h2 := h.puts
  have h3 := hB.items
  omega
theorem RS.idle.small {B : RS} (h : B.idle) : B.qu.small :=
  ⟨Nat.le_trans h.items (by decide), by rw [h.qworks]; simp, (fun x hx => by rw [h.qworks] at hx; cases hx), by have := h.given; unfold I64; omega⟩
theorem RS.under.small {B s : RS} {n : Int} {lk lq : List Ch} (hB : B.idle) (h : B.under s n lk lq) : s.qu.small := by
  refine ⟨?_, ?_, ?_, ?_⟩
  · rw [h.items, qMark_len]; exact Nat.le_trans hB.items (by decide)
  · rcases h.qworks with ⟨e, _⟩ | e <;> rw [e] <;> simp
  · intro x hx
    rcases h.qworks with ⟨e, _⟩ | e
    · rw [e] at hx; cases hx
    · rw [e] at hx
      obtain rfl := List.mem_singleton.1 hx
      exact Nat.le_trans (h.fit.len hB) (by decide)
  · rw [h.given]
    have := hB.given
    unfold I64
    omega
theorem qPrep_mem : ∀ (l : List QW) (n : Int) (x : QW), x ∈ qPrep l n → ∃ y ∈ l, x.list = y.list
  | [], _, _, h => by cases h
  | w :: r, n, x, h => by
    rw [qPrep] at h
    split at h
    · rcases List.mem_cons.1 h with rfl | h
      · exact ⟨w, List.mem_cons_self, rfl⟩
      · exact ⟨x, List.mem_cons_of_mem _ h, rfl⟩
    · rcases List.mem_cons.1 h with rfl | h
      · exact ⟨x, List.mem_cons_self, rfl⟩
      · obtain ⟨y, hy, e⟩ := qPrep_mem r n x h
        exact ⟨y, List.mem_cons_of_mem _ hy, e⟩
theorem qPrep_len : ∀ (l : List QW) (n : Int), (qPrep l n).length = l.length
  | [], _ => rfl
  | w :: r, n => by
    rw [qPrep]
    split
    · rfl
    · rw [List.length_cons, qPrep_len r n, List.length_cons]
theorem QU.small.prepare {q : QU} (h : q.small) (n : Int) : (q.prepare n).1.small := by
  unfold QU.prepare
  split
  · exact h
  · cases q.find n with
    | none => exact h
    | some w =>
      refine ⟨h.items, by show (qPrep q.works n).length ≤ 1000; rw [qPrep_len]; exact h.works, fun x hx => ?_, h.num⟩
      obtain ⟨y, hy, e⟩ := qPrep_mem q.works n x hx
      rw [e]
      exact h.lists y hy
theorem RS.prepare_qu {s : RS} {n : Int} (h : s.qu.small) : (s.prepare n).1.qu.small := by
  unfold RS.prepare
  split
  · exact h
  · exact h.prepare n
theorem new_idle : RS.new.idle := ⟨rfl, rfl, rfl, rfl, rfl, by decide, (fun x hx => by cases hx), by decide⟩
theorem kchange_small {s : RS} {n : Int} {c : Ch} (h : s.qu.small) : (s.change n c).1.qu.small := by
  unfold RS.change
  split
  · exact h
  · exact h
set_option maxHeartbeats 4000000 in
theorem alive08_calls (w : World) : Calls Try.prog 16 #[] w (Yes w) := by
  have HST1 : Aside0 (St w (fun _ => False) (w.alloc raw0.obj) (rsL w.heap.size raw0 [] [] RS.new ++ [])) := ⟨rs_new ((St.start (Sep.nil w (fun _ => False))).alloc raw0.obj)⟩
  have HC := Aside0.mk (St.call HST1.out (fun F1 h1 => rsput_calls _ F1 w.heap.size raw0 [] [] RS.new 1 2 3 raw0_is h1 (by unfold I64; omega) (by unfold U64; omega)))
  have hx1 : (RS.new.change 1 ⟨1, 2, 3⟩).2 = 0 := by rfl
  have hx2 : ((RS.new.change 1 ⟨1, 2, 3⟩).1.prepare 1).2 = ([⟨1, 2, 3⟩], 0) := by rfl
  have HSM : Aside0 ((RS.new.change 1 ⟨1, 2, 3⟩).1.qu.small) := ⟨kchange_small new_idle.small⟩
  unfold RsR at HC
  rw [hx1] at HC
  generalize (RS.new.change 1 ⟨1, 2, 3⟩).1 = s1 at HC hx2 HSM
  have HX2 := Aside0.mk hx2
  clear hx1 hx2
  go_enter Try.func16, Try.ntmps16
  go_wp2_with fail
  refine (rnew_calls w).mono ?_
  rintro e W1 ⟨rfl, rfl⟩
  go_wp2_with fail
  refine HC.out.mono ?_
  rintro e W2 ⟨l', ⟨r1, K1, Q1, rfl, h1, rfl⟩, hst⟩
  have HIS := Aside0.mk h1
  have HP := Aside0.mk (St.call hst (fun F1 g1 => rprepare_calls W2 F1 w.heap.size r1 K1 Q1 s1 1 HIS.out g1 (by unfold I64; omega) HSM.out))
  unfold RsPrepR at HP
  rw [HX2.out] at HP
  clear h1 hst HC
  go_wp2_with fail
  refine HP.out.mono ?_
  rintro e W3 ⟨l', ⟨v, r2, K2, Q2, rfl, h2, rfl⟩, hst⟩
  have hst' : St w (fun _ => False) W3 (chRow v [⟨1, 2, 3⟩] :: (rsL w.heap.size r2 K2 Q2 (s1.prepare 1).1 ++ [])) := hst
  obtain ⟨A, c, rfl, _, _, hat⟩ := chRow_form hst'.1.head
  have HW := Aside0.mk (St.fresh hst' (reswrite_calls W3 [⟨1, 2, 3⟩] A c hat (by decide) (fun c hc => by obtain rfl := List.mem_singleton.1 hc; unfold chOk U64; dsimp only; omega)))
  clear h2 hst hst' hat HP
  go_wp2_with fail
  refine HW.out.mono ?_
  rintro e W4 ⟨l', ⟨v4, rfl, rfl⟩, hst⟩
  obtain ⟨A4, c4, rfl, _, _, _⟩ := (bRow_q hst.1.head).form
  have HB := Aside0.mk (hst.2.below (fun _ h => h))
  have hl : (wrB [⟨1, 2, 3⟩]).length = 17 := by rw [wrB_len]; rfl
  rw [hl]
  clear hst HW hl
  go_wp2_with fail
  go_ret
  exact ⟨rfl, HB.out⟩
def DoR (b : Nat) (B : RS) (e : Ending) (l' : List Part) : Prop := ∃ v r' K' Q' lk lq s1, e = .returned (.tuple #[v, .bool true]) ∧ RsIs r' K' Q' s1 ∧ chGood lk ∧ QFit B lq ∧ s1.commit 1 = (B.after lk lq, 0) ∧ s1.backout 1 = (B, 0) ∧ s1.qu.small ∧ l' = chRow v (lk ++ lq) :: rsL b r' K' Q' s1
def taskV (A : Option Addr) (n c : Nat) (cm fc : Bool) : Value := .agg #[.slice A n c, .bool cm, .bool fc]
set_option maxRecDepth 100000 in
set_option maxHeartbeats 8000000 in
theorem tkdo_calls (w : World) (F : Nat → Prop) (b : Nat) (r : Raw) (K : KM) (Q : QM) (B : RS) (l : List Ch) (A : Option Addr) (cp : Nat) (cm fc : Bool) (hB : B.idle) (hs : RsIs r K Q B) (h : Sep (rsL b r K Q B) w F) (hl : ∀ W, Kp w F W → ChAt W A l) (hll : l.length ≤ maxLen) (hv : ∀ c ∈ l, U64 c.val) :
    Calls Try.prog 8 #[taskV A l.length cp cm fc, .pointer (some ⟨b, 0, none⟩)] w (Ret w F (DoR b B)) := by
  have HL := Aside0.mk hl
  have HV := Aside0.mk hv
  have HB := Aside0.mk hB
  have HST1 : Aside0 (St w F (w.alloc (.cells #[.slice A l.length cp, .bool cm, .bool fc] 42)) (rsL b r K Q B ++ [pt w.heap.size (.cells #[.slice A l.length cp, .bool cm, .bool fc] 42 (0, 0))])) := ⟨((St.start h).alloc _).pick [1, 2, 3, 4, 5, 6, 7, 8, 9, 0] (by decide)⟩
  have HS := Aside0.mk hs
  obtain ⟨m, hm⟩ : ∃ m, m = l.length := ⟨_, rfl⟩
  have HM := Aside0.mk hm
  have hm2 : m ≤ 9223372036854775807 := by rw [hm]; exact hll
  rw [← hm] at HST1 ⊢
  have I1 : Aside0 (I64 1) := ⟨by unfold I64; omega⟩
  unfold taskV
  clear hl hv hB hs h hm hll
  go_enter Try.func8, Try.ntmps8
  go_wp2_with fail
  generalize w.heap.size = b2 at HST1 ⊢
  generalize w.alloc _ = W1 at HST1 ⊢
  go_loopw [6] (fun v6 wr => ∃ (k : Nat) (r' : Raw) (K' : KM) (Q' : QM) (s' : RS) (lk lq : List Ch), k ≤ m ∧ k ≤ 20 ∧ v6 = .int .i64 k ∧ Aside0 (RsIs r' K' Q' s' ∧ B.under s' 1 lk lq) ∧ Aside0 (St w F wr (rsL b r' K' Q' s' ++ [pt b2 (.cells #[.slice A m cp, .bool cm, .bool fc] 42 (0, 0))]))) (fun v _ => 20 - (intOf v).toNat)
  case atStart => exact ⟨0, r, K, Q, B, [], [], by omega, by omega, rfl, ⟨HS.out, RS.under.start HB.out 1⟩, HST1⟩
  case round =>
    obtain ⟨k, r', K', Q', s', lk, lq, hk, hk2, rfl, HI, HST⟩ := hrel
    obtain ⟨t0, t1, t2, _⟩ := heap3 (HST.out.pick [9] (by decide)).heap
    by_cases hgo : k < m ∧ k < 20
    · have hlt1 : (k : Int) < (m : Int) := by omega
      have hlt2 : (k : Int) < 20 := by omega
      have hkl : k < l.length := by rw [← HM.out]; exact hgo.1
      obtain ⟨ad, rfl, k0, k1, k2⟩ := (HL.out wr HST.out.2) k hkl
      obtain ⟨c, hc⟩ : ∃ c, c = l.getD k ch0 := ⟨_, rfl⟩
      have HU : Aside0 (U64 c.val) := ⟨HV.out c (by rw [hc, List.getD_eq_getElem?_getD, List.getElem?_eq_getElem hkl]; exact List.getElem_mem hkl)⟩
      rw [← hc] at k0 k1 k2
      obtain ⟨kd, ky, vl⟩ := c
      dsimp only at k0 k1 k2 HU
      have HST2 : Aside0 (St w F (wr.alloc (.cells #[.int .i64 kd, .int .i64 ky, .int .u64 vl] 94)) (rsL b r' K' Q' s' ++ [pt b2 (.cells #[.slice (some ad) m cp, .bool cm, .bool fc] 42 (0, 0)), pt wr.heap.size (.cells #[.int .i64 kd, .int .i64 ky, .int .u64 vl] 94 (0, 0))])) := ⟨(HST.out.alloc _).pick [1, 2, 3, 4, 5, 6, 7, 8, 9, 10, 0] (by decide)⟩
      obtain ⟨x0, x1, x2, _⟩ := heap3 (HST2.out.pick [10] (by decide)).heap
      have HP1 : Aside0 _ := ⟨St.call HST2.out (fun F1 h1 => rsput_calls _ F1 b r' K' Q' s' 1 ky vl HI.out.1 h1 I1.out HU.out)⟩
      have HP2 : Aside0 _ := ⟨St.call HST2.out (fun F1 h1 => rdel_calls _ F1 b r' K' Q' s' 1 ky HI.out.1 h1 I1.out)⟩
      have HP3 : Aside0 _ := ⟨St.call HST2.out (fun F1 h1 => rpush_calls _ F1 b r' K' Q' s' 1 vl HI.out.1 h1 I1.out (HI.out.2.small HB.out))⟩
      have HP4 : Aside0 _ := ⟨St.call HST2.out (fun F1 h1 => rpop_calls _ F1 b r' K' Q' s' 1 HI.out.1 h1 I1.out (HI.out.2.small HB.out))⟩
      obtain ⟨lk1, hu1⟩ := HI.out.2.change (c := ⟨1, ky, vl⟩) (by decide) ⟨.inl rfl, HU.out⟩
      obtain ⟨lk2, hu2⟩ := HI.out.2.change (c := ⟨2, ky, 0⟩) (by decide) ⟨.inr ⟨rfl, rfl⟩, by unfold U64; dsimp only; omega⟩
      obtain ⟨lq3, hu3⟩ := HI.out.2.push HB.out (by decide) HU.out
      obtain ⟨lq4, hu4⟩ := HI.out.2.pop HB.out (by decide)
      have HU1 := Aside0.mk hu1
      have HU2 := Aside0.mk hu2
      have HU3 := Aside0.mk hu3
      have HU4 := Aside0.mk hu4
      clear hc hkl hu1 hu2 hu3 hu4
      by_cases d1 : kd = 1
      · have e1 : (kd == 1) = true := beq_iff_eq.2 d1
        clear d1 HP2 HP3 HP4
        go_wp2_with fail
        refine HP1.out.mono ?_
        rintro e W2 ⟨l', ⟨r2, K2, Q2, rfl, h2, rfl⟩, hst⟩
        have HI2 := Aside0.mk h2
        have HST3 := Aside0.mk (hst.pick [0, 1, 2, 3, 4, 5, 6, 7, 8, 9] (by decide))
        clear h2 hst HP1
        go_wp2_with fail
        exact ⟨⟨k + 1, r2, K2, Q2, _, lk1, lq, by omega, by omega, by go_num, ⟨HI2.out, HU1.out⟩, HST3⟩, by simp [intOf]; omega⟩
      · have e1 : (kd == 1) = false := beq_false_of_ne d1
        by_cases d2 : kd = 2
        · have e2 : (kd == 2) = true := beq_iff_eq.2 d2
          clear d1 d2 HP1 HP3 HP4
          go_wp2_with fail
          refine HP2.out.mono ?_
          rintro e W2 ⟨l', ⟨r2, K2, Q2, rfl, h2, rfl⟩, hst⟩
          have HI2 := Aside0.mk h2
          have HST3 := Aside0.mk (hst.pick [0, 1, 2, 3, 4, 5, 6, 7, 8, 9] (by decide))
          clear h2 hst HP2
          go_wp2_with fail
          exact ⟨⟨k + 1, r2, K2, Q2, _, lk2, lq, by omega, by omega, by go_num, ⟨HI2.out, HU2.out⟩, HST3⟩, by simp [intOf]; omega⟩
        · have e2 : (kd == 2) = false := beq_false_of_ne d2
          by_cases d3 : kd = 3
          · have e3 : (kd == 3) = true := beq_iff_eq.2 d3
            clear d1 d2 d3 HP1 HP2 HP4
            go_wp2_with fail
            refine HP3.out.mono ?_
            rintro e W2 ⟨l', ⟨r2, K2, Q2, rfl, h2, rfl⟩, hst⟩
            have HI2 := Aside0.mk h2
            have HST3 := Aside0.mk (hst.pick [0, 1, 2, 3, 4, 5, 6, 7, 8, 9] (by decide))
            clear h2 hst HP3
            go_wp2_with fail
            exact ⟨⟨k + 1, r2, K2, Q2, _, lk, lq3, by omega, by omega, by go_num, ⟨HI2.out, HU3.out⟩, HST3⟩, by simp [intOf]; omega⟩
          · have e3 : (kd == 3) = false := beq_false_of_ne d3
            by_cases d4 : kd = 4
            · have e4 : (kd == 4) = true := beq_iff_eq.2 d4
              clear d1 d2 d3 d4 HP1 HP2 HP3
              go_wp2_with fail
              refine HP4.out.mono ?_
              rintro e W2 ⟨l', ⟨r2, K2, Q2, rfl, h2, rfl⟩, hst⟩
              have HI2 := Aside0.mk h2
              have HST3 := Aside0.mk (hst.pick [0, 1, 2, 3, 4, 5, 6, 7, 8, 9] (by decide))
              clear h2 hst HP4
              go_wp2_with fail
              exact ⟨⟨k + 1, r2, K2, Q2, _, lk, lq4, by omega, by omega, by go_num, ⟨HI2.out, HU4.out⟩, HST3⟩, by simp [intOf]; omega⟩
            · have e4 : (kd == 4) = false := beq_false_of_ne d4
              have HST3 := Aside0.mk (HST2.out.pick [0, 1, 2, 3, 4, 5, 6, 7, 8, 9] (by decide))
              clear d1 d2 d3 d4 HP1 HP2 HP3 HP4
              go_wp2_with fail
              exact ⟨⟨k + 1, r', K', Q', s', lk, lq, by omega, by omega, by go_num, HI, HST3⟩, by simp [intOf]; omega⟩
    · have HP : Aside0 _ := ⟨St.call HST.out (fun F1 h1 => rprepare_calls _ F1 b r' K' Q' s' 1 HI.out.1 h1 I1.out (HI.out.2.small HB.out))⟩
      obtain ⟨s1, e1, e2, e3⟩ := (HI.out.2.preps HB.out (by decide)).prep
      have hsm := RS.prepare_qu (n := 1) (HI.out.2.small HB.out)
      rw [e1] at hsm
      unfold RsPrepR at HP
      rw [e1] at HP
      have HE2 := Aside0.mk e2
      have HE3 := Aside0.mk e3
      have HSM := Aside0.mk hsm
      have hor : ¬ (k : Int) < (m : Int) ∨ ((k : Int) < (m : Int) ∧ ¬ (k : Int) < 20) := by omega
      clear e1 e2 e3 hsm hgo
      rcases hor with hlt | ⟨hlt1, hlt2⟩
      all_goals
        go_wp2_with fail
        refine HP.out.mono ?_
        rintro e W2 ⟨l', ⟨v, r2, K2, Q2, rfl, h2, rfl⟩, hst⟩
        have HI2 := Aside0.mk h2
        have HST3 := Aside0.mk (hst.pick [0, 1, 2, 3, 4, 5, 6, 7, 8, 9] (by decide))
        obtain ⟨A2, c2, e2, _, _, _⟩ := chRow_form hst.1.head
        obtain ⟨n2, hn2⟩ : ∃ n2, n2 = (lk ++ lq).length := ⟨_, rfl⟩
        rw [← hn2] at e2
        subst e2
        clear h2 hst HP hn2
        go_wp2_with fail
        go_ret2
        exact HST3.out.ret ⟨.slice A2 n2 c2, r2, K2, Q2, lk, lq, s1, rfl, HI2.out, HI.out.2.good, HI.out.2.fit, HE2.out, HE3.out, HSM.out, rfl⟩
end Go.Proofs.Ytobljkhidgbeoaa.Oct
/- Images: As, Same. -/
namespace Go.Proofs.Ytobljkhidgbeoaa.Oct
open Go.RowKit Go.Proofs.YtobljkhidgbeoaaW.PrintWords Go.Proofs.Ytobljkhidgbeoaa.M
set_option linter.unusedVariables false
set_option linter.unusedSimpArgs false
def U64At (W : World) (A : Option Addr) (l : List Int) : Prop := ∀ k, k < l.length → ∃ ad, A = some ad ∧ W.cell? (ad.add k) = some (.int .u64 (l.getD k 0))
def PrAt (W : World) (A : Option Addr) (l : List (Int × Int)) : Prop := ∀ k, k < l.length → ∃ ad, A = some ad ∧ W.cell? (ad.add (k * 2)) = some (.int .i64 (l.getD k (0, 0)).1) ∧ W.cell? ⟨(ad.add (k * 2)).block, (ad.add (k * 2)).off + 1, none⟩ = some (.int .u64 (l.getD k (0, 0)).2)
theorem cell_below {W W' : World} {ad : Addr} {v : Value} (h : W.cell? ad = some v) (hb : Below W.heap.size W W') : W'.cell? ad = some v := by rw [hb.cell (World.block_lt_of_cell? _ _ h)]; exact h
theorem U64At.below {W W' : World} {A : Option Addr} {l : List Int} (h : U64At W A l) (hb : Below W.heap.size W W') : U64At W' A l := fun k hk => by
  obtain ⟨ad, e, h0⟩ := h k hk
  exact ⟨ad, e, cell_below h0 hb⟩
theorem PrAt.below {W W' : World} {A : Option Addr} {l : List (Int × Int)} (h : PrAt W A l) (hb : Below W.heap.size W W') : PrAt W' A l := fun k hk => by
  obtain ⟨ad, e, h0, h1⟩ := h k hk
  exact ⟨ad, e, cell_below h0 hb, cell_below h1 hb⟩
theorem prCells_get (l : List (Int × Int)) (k : Nat) (hk : k < l.length) : (prCells l)[k * 2]? = some (.int .i64 (l.getD k (0, 0)).1) ∧ (prCells l)[k * 2 + 1]? = some (.int .u64 (l.getD k (0, 0)).2) := by
  induction l generalizing k with
  | nil => simp at hk
  | cons c l ih =>
    have e : prCells (c :: l) = [.int .i64 c.1, .int .u64 c.2] ++ prCells l := rfl
    rw [e]
    cases k with
    | zero => exact ⟨rfl, rfl⟩
    | succ k =>
      have h := ih k (by simpa using hk)
      refine ⟨?_, ?_⟩
      · rw [List.getElem?_append_right (by simp; omega)]
        have : (k + 1) * 2 - 2 = k * 2 := by omega
        simp only [List.length_cons, List.length_nil]
        rw [this]; exact h.1
      · rw [List.getElem?_append_right (by simp; omega)]
        have : (k + 1) * 2 + 1 - 2 = k * 2 + 1 := by omega
        simp only [List.length_cons, List.length_nil]
        rw [this]; exact h.2
/-- what a row of pairs says -/
theorem pr_at {e : TypeId} {v : Value} {l : List (Int × Int)} {W : World} {F : Nat → Prop} (h : (row e 2 v l.length (prCells l)).P W F) : ∃ A c, v = .slice A l.length c ∧ PrAt W A l := by
  obtain ⟨A, c, rfl, _, _⟩ := row_form h.1
  refine ⟨A, c, rfl, fun k hk => ?_⟩
  obtain ⟨g0, g1⟩ := prCells_get l k hk
  obtain ⟨ad, e, k0⟩ := OwnAt.cell h.1 g0
  obtain ⟨ad1, e1, k1⟩ := OwnAt.cell h.1 g1
  rw [e] at e1
  injection e1 with e1
  subst e1
  exact ⟨ad, e, k0, by rw [add_more]; exact k1⟩
theorem v_at {v : Value} {l : List QI} {W : World} {F : Nat → Prop} (h : (vRow v l).P W F) : ∃ A c, v = .slice A l.length c ∧ U64At W A (l.map (·.val)) := by
  obtain ⟨A, c, rfl, _, _⟩ := row_form h.1
  refine ⟨A, c, rfl, fun k hk => ?_⟩
  rw [List.length_map] at hk
  obtain ⟨ad, e, k0⟩ := OwnAt.cell h.1 (j := k) (u := .int .u64 ((l.map (·.val)).getD k 0)) (by unfold qVals; rw [List.getElem?_map, List.getElem?_eq_getElem hk]; simp [List.getD_eq_getElem?_getD, hk])
  exact ⟨ad, e, k0⟩
set_option maxHeartbeats 2000000 in
theorem same14_calls (w : World) (A B : Option Addr) (c d n : Nat) (l : List Int) (hn : n = l.length) (hA : U64At w A l) (hB : U64At w B l) (hll : n ≤ 1000) :
    Calls Try.prog 44 #[.slice A n c, .slice B n d] w fun e w' => e = .returned (.bool true) ∧ Below w.heap.size w w' := by
  have HA := Aside0.mk hA
  have HB := Aside0.mk hB
  have HN := Aside0.mk hn
  clear hA hB hn
  go_enter Try.func44, Try.ntmps44
  go_wp2_with fail
  go_loopw [5] (fun v5 wr => ∃ k : Nat, k ≤ n ∧ v5 = .int .i64 k ∧ Aside0 (Below w.heap.size w wr)) (fun v _ => n - (intOf v).toNat)
  case atStart => exact ⟨0, by omega, rfl, ⟨Below.refl _ _⟩⟩
  case round =>
    obtain ⟨k, hk, rfl, HW⟩ := hrel
    by_cases hlt : k < n
    · have hlt' : (k : Int) < (n : Int) := by omega
      have hkl : k < l.length := by rw [← HN.out]; exact hlt
      obtain ⟨ad, rfl, k0⟩ := (HA.out.below HW.out) k hkl
      obtain ⟨ad2, rfl, k1⟩ := (HB.out.below HW.out) k hkl
      generalize l.getD k 0 = x at k0 k1
      clear hkl
      go_wp2_with fail
      go_quiet (fail)
      have HW2 : Aside0 (Below w.heap.size w (wr.drewN nq)) := ⟨HW.out.trans ((below_drawN wr nq).mono HW.out.size)⟩
      go_wp2_with fail
      exact ⟨⟨k + 1, by omega, by go_num, HW2⟩, by simp [intOf]; omega⟩
    · have hlt' : ¬ (k : Int) < (n : Int) := by omega
      clear hlt
      go_wp2_with fail
      go_ret
      exact ⟨rfl, HW.out⟩
end Go.Proofs.Ytobljkhidgbeoaa.Oct
