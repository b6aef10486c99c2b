
import Derived.Test.YtobljkhidgbeoaaZ41
/- Cut and Force, once more: they make no memory; copies. -/
namespace Go.Proofs.Ytobljkhidgbeoaa.Oct
open Go.RowKit Go.Proofs.YtobljkhidgbeoaaW.PrintWords Go.Proofs.Ytobljkhidgbeoaa.M
set_option linter.unusedVariables false
set_option linter.unusedSimpArgs false
def KepT (W : World) (p : Nat) (F : Nat → Prop) (t : TS) (n : Int) (e : Ending) (W' : World) : Prop := e = .returned (.int .i64 n) ∧ TapeAt W' p t F ∧ W.grownBy W' (some p)
theorem force_keep (w : World) (p : Nat) (t : TS) (F : Nat → Prop) (h : TapeAt w p t F) : Calls Try.prog 23 #[.pointer (some ⟨p, 0, none⟩)] w (KepT w p F t.force 0) := by
  have HT := Aside0.mk h
  obtain ⟨A, c, hh, hc, hp, hr, hok⟩ := h
  obtain ⟨c0, c1, c2, f0, f1, f2⟩ := three_cells hh
  have HH := Aside0.mk hh
  clear hh
  go_enter Try.func23, Try.ntmps23
  go_wp2_with fail
  refine (made_calls _ p t F HT.out).mono ?_
  rintro e w1 ⟨rfl, rfl⟩
  go_wp2
  go_ret
  exact ⟨rfl, ⟨A, c, heap_set _ HH.out, hc, hp, hr.grown (grown_set _ p 2 _) (fun k hk e => hk.2 (by injection e)), TS.force_ok hok⟩, grown_set _ _ _ _⟩
theorem cutk_close (w1 : World) (p : Nat) (t : TS) (F : Nat → Prop) (n : Nat) (B : Option Addr) (d f : Nat) (hh : w1.heap[p]? = some (.cells #[.int .i64 t.room, .slice B t.bs.length d, .int .i64 t.forced] 62 (0, 0)))
    (hr : RB w1 (fun k => F k ∧ k ≠ p) B t.bs) (hp : F p) (hok : t.ok) (hn : n ≤ t.bs.length) (hf : f = min t.forced n) :
    KepT w1 p F { t with bs := t.bs.take n, forced := min t.forced n } 0 (.returned (.int .i64 0)) ((w1.setCell ⟨p, 1, none⟩ (.slice B n n)).setCell ⟨p, 2, none⟩ (.int .i64 f)) := by
  subst hf
  refine ⟨rfl, ⟨B, n, ?_, by show (t.bs.take n).length ≤ n; rw [List.length_take]; omega, hp, ?_, ?_⟩, World.grownBy.trans (grown_set _ _ _ _) (grown_set _ _ _ _)⟩
  · show _ = some (Obj.cells #[.int .i64 t.room, .slice B (t.bs.take n).length n, .int .i64 ((min t.forced n : Nat) : Int)] _ _)
    rw [List.length_take, Nat.min_eq_left hn]
    exact heap_set _ (heap_set _ hh)
  · exact ((hr.take n).grown (grown_set w1 p 1 _) (fun k hk e => hk.2 (by injection e))).grown (grown_set _ p 2 _) (fun k hk e => hk.2 (by injection e))
  · obtain ⟨h1, h2, h3, h4, h5⟩ := hok
    exact ⟨h1, h2, by show (t.bs.take n).length ≤ t.room; rw [List.length_take]; omega, by show min t.forced n ≤ (t.bs.take n).length; rw [List.length_take]; omega, h5.take _⟩
theorem cut_keep (w : World) (p : Nat) (t : TS) (F : Nat → Prop) (n : Nat) (h : TapeAt w p t F) (hn : n ≤ t.bs.length) :
    Calls Try.prog 22 #[.pointer (some ⟨p, 0, none⟩), .int .i64 n] w (KepT w p F { t with bs := t.bs.take n, forced := min t.forced n } 0) := by
  have HT := Aside0.mk h
  obtain ⟨B, d, hh, hc, hp, hr, hok⟩ := h
  obtain ⟨c0, c1, c2, f0, f1, f2⟩ := three_cells hh
  have hl1 : t.bs.length ≤ t.room := hok.2.2.1
  have hl2 : t.room ≤ 65536 := hok.2.1
  have hl3 : t.forced ≤ t.bs.length := hok.2.2.2.1
  have HH := Aside0.mk hh
  have HR := Aside0.mk hr
  have HP := Aside0.mk hp
  have HOK := Aside0.mk hok
  clear hh hr hok hp
  by_cases hlt : (n : Int) < (t.forced : Int)
  all_goals
    go_enter Try.func22, Try.ntmps22
    go_wp2_with fail
    refine (made_calls _ p t F HT.out).mono ?_
    rintro e w1 ⟨rfl, rfl⟩
    go_wp2
    go_ret
    exact cutk_close _ p t F n B d _ HH.out HR.out HP.out HOK.out hn (by omega)
/-- one step of a region that draws: append(v, r) -/
theorem step_rec {ops : Array Oper} {o : Oper} {a : Act} {K : Act → World → Prop} {Q : Exit → Act → World → Prop} {E : Prop} {W : World} (base : Nat) (hgd : o.guard = none) (s x : Operand)
    (ho : o.op = .call { callee := .builtin .append, args := #[s, x], argTypes := #[28, 28] })
    (v : Value) (ls : List Rc) (r : Rc) (u : Value) (g : Nat) (hs : a.eval s = v) (hx : a.eval x = .slice (some ⟨g, 0, none⟩) 1 1) (HO : RW W base v ls) (hb : W.heap[g]? = some (.cells #[.int .i64 r.1, u] 50 (0, 0))) (HU : OB W base u r.2)
    (hbase : base ≤ W.heap.size) (hl : ls.length ≤ 10000000000)
    (h : ∀ v1 w1, RW w1 base v1 (ls ++ [r]) → W.grownBy w1 v.ownBlock → (∀ k, v.ownBlock = some k → base ≤ k) → K (a.put o.dst v1) w1) :
    if Region.wanted o (yielded ops a.tmps) = true then Oper.wp Try.prog o a W K Q else E := by
  obtain ⟨vs, e2, e3⟩ := HO
  obtain ⟨i0, hi0, hz0, hz1, hz2⟩ := info_parts info_rec
  obtain ⟨Au, cu, rfl, _⟩ := HU.reads
  obtain ⟨x0, x1, _, _⟩ := two_cells' hb
  refine step_append_lies W hgd s x 28 ho base 50 i0 (.agg #[.int .i64 0, .slice none 0 0]) 2 32 Try.underlying28 hi0 hz0 hz1 hz2 rfl (by decide) v ls.length vs hs e2 ⟨g, 0, none⟩ 1 1 [.int .i64 r.1, .slice Au r.2.length cu] hx rfl ?_ (by simp [Value.oneCell']) (by decide) (by simp only [maxLen]; omega) (by omega) hbase W.heap.size rfl ?_
  · have := World.news_of_block hb
    simpa using this
  · intro g' cap w1 hown hg _ _
    exact h _ w1 (RW.add e2 e3 HU hown (fun k hk hne => hg.block k hk hne)) hg (fun k hk => own_base e2 k hk)
set_option maxRecDepth 20000 in
set_option maxHeartbeats 8000000 in
theorem copies_calls (w : World) (l : List Rc) (A : Option Addr) (c : Nat) (h : recK.C w A l.length l) (hok : ∀ r ∈ l, r.2.length ≤ 140737488355328) (hll : l.length ≤ 10000000000) :
    Calls Try.prog 24 #[.slice A l.length c] w fun e w' => ∃ v, e = .returned v ∧ RW w' w.heap.size v l ∧ Below w.heap.size w w' := by
  have HL := Aside0.mk h
  have HOK := Aside0.mk hok
  clear h hok
  obtain ⟨n, hn⟩ : ∃ n, n = l.length := ⟨_, rfl⟩
  have HN := Aside0.mk hn
  rw [← hn] at hll HL ⊢
  clear hn
  go_enter Try.func24, Try.ntmps24
  go_wp2_with fail
  go_loopw [3, 8] (fun v3 v8 wr => ∃ i : Nat, i ≤ n ∧ v8 = .int .i64 i ∧ Aside0 (Below w.heap.size w wr) ∧ Aside0 (RW wr w.heap.size v3 (l.take i))) (fun _ v _ => n - (intOf v).toNat)
  case atStart => exact ⟨0, by omega, rfl, ⟨Below.refl _ _⟩, ⟨RW.nil _ _⟩⟩
  case round =>
    obtain ⟨i, hi, rfl, HB, HO⟩ := hrel
    obtain ⟨A3, c3, rfl⟩ := HO.out.form
    have HLS : Aside0 ((l.take i).length = i) := ⟨by have := HN.out; rw [List.length_take]; omega⟩
    obtain ⟨ls, hls⟩ : ∃ ls, ls = l.take i := ⟨_, rfl⟩
    have HLL := Aside0.mk hls
    rw [← hls] at HO HLS
    rw [← hls]
    clear hls
    by_cases hlt : i < n
    · have hlt' : (i : Int) < (n : Int) := by omega
      obtain ⟨ad, B, c1, rfl, k0, k1, _, hrd⟩ := rec_at (Kd.C_below HL.out HB.out) hlt (0, [])
      have HM := Aside0.mk (rec_mem (l := l) (i := i) (by have := HN.out; omega) (0, []))
      have HTS := Aside0.mk (take_snoc (l := l) (i := i) (by have := HN.out; omega) (0, []))
      have HLB := Aside0.mk (HOK.out _ HM.out)
      obtain ⟨o, ho⟩ : ∃ o, o = l.getD i (0, []) := ⟨_, rfl⟩
      rw [← ho] at k0 k1 hrd HTS HLB
      have HRD := Aside0.mk hrd
      clear ho hrd
      obtain ⟨k, d⟩ := o
      dsimp only at k0 k1 HRD HTS HLB
      obtain ⟨L, hL⟩ : ∃ L, L = d.length := ⟨_, rfl⟩
      have HL2 := Aside0.mk hL
      rw [← hL] at k1
      clear hL
      obtain ⟨q, hq⟩ : ∃ q, q = wr.heap.size := ⟨_, rfl⟩
      obtain ⟨w0, hw0⟩ : ∃ w0, w0 = wr.alloc (.cells #[.int .i64 k, .slice B L c1] 50) := ⟨_, rfl⟩
      have HB0 : Aside0 (Below wr.heap.size wr w0) := ⟨by rw [hw0]; exact below_alloc (Below.refl _ _) _⟩
      have HQ : Aside0 (w0.heap[q]? = some (.cells #[.int .i64 k, .slice B L c1] 50 (0, 0))) := ⟨by rw [hw0, hq]; exact heap_alloc_new wr _⟩
      have HS : Aside0 (∀ W, Below w0.heap.size w0 W → W.cell? ⟨q, 0, none⟩ = some (.int .i64 k) ∧ W.cell? ⟨q, 1, none⟩ = some (.slice B L c1)) := ⟨fun W hW => by
        obtain ⟨x0, x1, _, _⟩ := two_cells' (blk_keep HQ.out hW)
        exact ⟨x0, x1⟩⟩
      have HBW : Aside0 (∀ W, Below w0.heap.size w0 W → Below w.heap.size w W ∧ w.heap.size ≤ W.heap.size ∧ RW W w.heap.size (.slice A3 ls.length c3) ls) := ⟨fun W hW => ⟨HB.out.trans ((HB0.out.trans (hW.mono HB0.out.size)).mono HB.out.size), Nat.le_trans HB.out.size (Nat.le_trans HB0.out.size hW.size), (HO.out.below HB0.out).below hW⟩⟩
      have HCL : Aside0 (∀ W, Below w0.heap.size w0 W → Calls Try.prog 46 #[.slice B L c1] W (fun e W' => ∃ A2 c2, e = .returned (.slice A2 L c2) ∧ OB W' w.heap.size (.slice A2 L c2) d ∧ Below w0.heap.size w0 W')) := ⟨fun W hW => by
        have := clone_calls W B c1 d (Kd.C_below HRD.out (HB0.out.trans (hW.mono HB0.out.size))) HLB.out
        rw [← HL2.out] at this
        refine this.mono ?_
        rintro e W' ⟨v, rfl, ho, hb⟩
        obtain ⟨A2, c2, rfl, _⟩ := ho.reads
        rw [← HL2.out] at ho ⊢
        exact ⟨A2, c2, rfl, ho.lower (HBW.out W hW).2.1, hW.trans (hb.mono hW.size)⟩⟩
      have HBD : Aside0 (Below w0.heap.size w0 w0.drew) := ⟨below_drew (Below.refl _ _)⟩
      have HQK : Aside0 (∀ W W', Below w0.heap.size w0 W → W.grownBy W' (Value.slice A3 ls.length c3).ownBlock → W'.cell? ⟨q, 0, none⟩ = some (.int .i64 k) ∧ W'.cell? ⟨q, 1, none⟩ = some (.slice B L c1)) := ⟨fun W W' hW hg => by
        have hql : q < W.heap.size := Nat.lt_of_lt_of_le (Array.getElem?_eq_some_iff.1 HQ.out).1 hW.size
        have hne : some q ≠ (Value.slice A3 ls.length c3).ownBlock := fun e => by
          obtain ⟨vs, h1, _⟩ := HO.out
          have := own_lt h1 q e.symm
          omega
        obtain ⟨x0, x1, _, _⟩ := two_cells' ((hg.block q hql hne).trans (blk_keep HQ.out hW))
        exact ⟨x0, x1⟩⟩
      have HLE : Aside0 (ls.length ≤ 10000000000) := ⟨by have := HLS.out; omega⟩
      have hs0 := HS.out _ (Below.refl _ _)
      go_wp2_with fail
      rw [← hw0, ← hq]
      clear hw0 hq k0 k1 hs0
      go_wp2_with fail
      go_region_held_law (fun W => W.cell? ⟨q, 0, none⟩ = some (.int .i64 k) ∧ W.cell? ⟨q, 1, none⟩ = some (.slice B L c1)) (first | exact (Aside0.out (by assumption)) | exact HS.out _ (by first | exact (Aside0.out (by assumption)) | exact below_alloc (Aside0.out (by assumption)) _))
        (first
         | (refine step_call (by rfl) 46 #[.tmp 16] #[45] (by rfl) #[.slice B L c1] (by rfl) Try.f46 Try.func46 (by kernel_rfl) (by kernel_rfl) ?_; refine (HCL.out _ (by first | exact (Aside0.out (by assumption)) | exact Below.refl _ _)).mono ?_; rintro e wc ⟨A2, c2, rfl, hou, hbc⟩; have HOU := Aside0.mk hou; have HBC := Aside0.mk hbc; clear hou hbc; refine ⟨_, rfl, ?_⟩)
         | (refine step_rec w.heap.size rfl (.tmp 12) (.tmp 19) rfl (.slice A3 ls.length c3) ls (k, d) (.slice A2 L c2) wc.heap.size rfl rfl (HBW.out _ (by first | exact below_alloc HBC.out _ | exact below_drew (below_alloc HBC.out _))).2.2 (by exact heap_alloc_new wc _) (by first | exact HOU.out.below (below_alloc (Below.refl _ _) _) | exact HOU.out.below (below_drew (below_alloc (Below.refl _ _) _))) (by first | exact (HBW.out _ (below_alloc HBC.out _)).2.1 | exact (HBW.out _ (below_drew (below_alloc HBC.out _))).2.1) HLE.out ?_; intro v1 w4 ho1 hg1 hk1; rw [HLL.out, ← HTS.out] at ho1; have HO4 := Aside0.mk ho1; have HB4 : Aside0 (Below w.heap.size w w4) := ⟨by first | exact (HBW.out _ (below_alloc HBC.out _)).1.grown hg1 (HBW.out _ (below_alloc HBC.out _)).2.1 hk1 | exact (HBW.out _ (below_drew (below_alloc HBC.out _))).1.grown hg1 (HBW.out _ (below_drew (below_alloc HBC.out _))).2.1 hk1⟩; have HS4 : Aside0 (w4.cell? ⟨q, 0, none⟩ = some (.int .i64 k) ∧ w4.cell? ⟨q, 1, none⟩ = some (.slice B L c1)) := ⟨HQK.out _ _ (by first | exact below_alloc HBC.out _ | exact below_drew (below_alloc HBC.out _)) hg1⟩; clear ho1 hg1 hk1))
      all_goals
        go_wp2_with fail
        go_roundw
        case rel => exact ⟨i + 1, by omega, by go_num, HB4, HO4⟩
        case measure => simp [intOf]; omega
    · obtain rfl : i = n := by omega
      have HE : Aside0 (ls = l) := ⟨by rw [HLL.out, HN.out, List.take_length]⟩
      have hlt' : ¬ (i : Int) < (i : Int) := by omega
      clear hlt
      go_wp2_with fail
      go_ret
      have ho := HO.out
      rw [HE.out] at ho
      refine ⟨_, rfl, ?_, HB.out⟩
      rw [HE.out]
      exact ho
end Go.Proofs.Ytobljkhidgbeoaa.Oct
/- Open. -/
namespace Go.Proofs.Ytobljkhidgbeoaa.Oct
open Go.RowKit Go.Proofs.YtobljkhidgbeoaaW.PrintWords Go.Proofs.Ytobljkhidgbeoaa.M
set_option linter.unusedVariables false
set_option linter.unusedSimpArgs false
/-- any bytes are records, and a rest where no record stands -/
theorem read_parts (b : List Int) (hb : Bytes b) : ∃ (l : List Rc) (rest : List Int), b = allB l ++ rest ∧ (∀ r ∈ l, r.good ∧ Bytes r.2) ∧ ¬ isR rest := by
  induction hm : b.length using Nat.strongRecOn generalizing b with
  | _ m ih =>
    by_cases h : isR b
    · have h4 := h.2.2.2.1
      obtain ⟨g1, g2, g3, g4⟩ := isR_back hb h
      obtain ⟨l, rest, e, hg, hn⟩ := ih (b.drop (7 + lenR b)).length (by rw [List.length_drop]; omega) (b.drop (7 + lenR b)) (hb.drop _) rfl
      refine ⟨recR b :: l, rest, ?_, fun r hr => ?_, hn⟩
      · rw [allB_cons, List.append_assoc, ← e, g2, List.take_append_drop]
      · rcases List.mem_cons.1 hr with rfl | hr
        · exact ⟨g1, g3⟩
        · exact hg r hr
    · exact ⟨[], b, rfl, fun r hr => (nomatch hr), h⟩
def recsOf (b : List Int) : List Rc := (readL 0 b).map (·.2)
theorem read_split {b : List Int} (hb : Bytes b) : ∃ rest, b = allB (recsOf b) ++ rest ∧ (∀ r ∈ recsOf b, r.good ∧ Bytes r.2) ∧ ¬ isR rest ∧ readL 0 b = endsR 0 (recsOf b) := by
  obtain ⟨l, rest, e, hg, hn⟩ := read_parts b hb
  have h1 : readL 0 b = endsR 0 l := by rw [e, readL_allB (fun r hr => (hg r hr).1), readL_no hn, List.append_nil]
  have h2 : recsOf b = l := by unfold recsOf; rw [h1, endsR_map]
  rw [h2]
  exact ⟨rest, e, hg, hn, h1⟩
theorem recsOf_allB {l : List Rc} (hg : ∀ r ∈ l, r.good) : recsOf (allB l) = l := by
  unfold recsOf
  rw [readL_whole hg, endsR_map]
theorem bytes_allB {l : List Rc} (hg : ∀ r ∈ l, r.good ∧ Bytes r.2) : Bytes (allB l) := by
  unfold allB
  intro b hb
  obtain ⟨r, hr, hbr⟩ := List.mem_flatMap.1 hb
  exact Rc.all_bytes (hg r hr).1 (hg r hr).2 b hbr
/-- a tape behind Open -/
def TS.opened (t : TS) : TS := ⟨t.room, allB (recsOf t.bs), (allB (recsOf t.bs)).length⟩
theorem opened_eq {t : TS} (h : t.ok) : (TS.mk t.room (t.bs.take (allB (recsOf t.bs)).length) (min t.forced (allB (recsOf t.bs)).length)).force = t.opened ∧ (allB (recsOf t.bs)).length ≤ t.bs.length ∧ endL (readL 0 t.bs) = ((allB (recsOf t.bs)).length : Int) := by
  obtain ⟨rest, e, hg, hn, h1⟩ := read_split h.2.2.2.2
  have ht0 : ∀ x, t.bs = x ++ rest → t.bs.take x.length = x := fun x e => by rw [e, List.take_left' rfl]
  have ht := ht0 _ e
  refine ⟨?_, ?_, by rw [h1, endL_zero]⟩
  · unfold TS.force TS.opened
    dsimp only
    rw [ht]
  · have := congrArg List.length e
    rw [List.length_append] at this
    omega
theorem recs_le {b : List Int} (hb : b.length ≤ 65536) : (recsOf b).length ≤ 65536 := by
  have := readL_len b 0
  unfold recsOf
  rw [List.length_map]
  omega
theorem recs_small {b : List Int} (hb : Bytes b) : ∀ r ∈ recsOf b, r.good ∧ Bytes r.2 := by
  obtain ⟨rest, e, hg, _⟩ := read_split hb
  exact hg
def RetOp (w : World) (p : Nat) (F : Nat → Prop) (t : TS) (e : Ending) (w' : World) : Prop :=
  ∃ q A c v, e = .returned (.tuple #[.pointer (some ⟨q, 0, none⟩), .slice A (recsOf t.bs).length c, .int .i64 0]) ∧ RW w' w.heap.size (.slice A (recsOf t.bs).length c) (recsOf t.bs) ∧
    w.heap.size ≤ q ∧ w'.heap[q]? = some (.cells #[.pointer (some ⟨p, 0, none⟩), v] 70 (0, 0)) ∧ RW w' w.heap.size v (recsOf t.bs) ∧ TapeAt w' p t.opened F ∧ w.grownBy w' (some p)
set_option maxRecDepth 20000 in
set_option maxHeartbeats 8000000 in
theorem open_calls (w : World) (p : Nat) (t : TS) (F : Nat → Prop) (h : TapeAt w p t F) : Calls Try.prog 5 #[.pointer (some ⟨p, 0, none⟩)] w (RetOp w p F t) := by
  have hok : t.ok := by obtain ⟨_, _, _, _, _, _, h⟩ := h; exact h
  have hpl : p < w.heap.size := by obtain ⟨_, _, hh, _⟩ := h; exact (Array.getElem?_eq_some_iff.1 hh).1
  have HT := Aside0.mk (h.mono (G := fun k => F k ∧ k < w.heap.size) (fun k hk hl => ⟨hk, hl⟩))
  have HPL := Aside0.mk hpl
  obtain ⟨o1, o2, o3⟩ := opened_eq hok
  have HO := Aside0.mk o1
  have HSP := Aside0.mk (recs_small hok.2.2.2.2)
  have HRL := Aside0.mk (recs_le (b := t.bs) (by have := hok.2.1; have := hok.2.2.1; omega))
  have hroom : ((t.room : Int) == 0) = false := by have := hok.1; simp; omega
  have hb5 : t.bs.length ≤ 65536 := by have := hok.2.1; have := hok.2.2.1; omega
  have HBY := Aside0.mk hok.2.2.2.2
  obtain ⟨l, hl⟩ : ∃ l, l = recsOf t.bs := ⟨_, rfl⟩
  have HLE : Aside0 ((readL 0 t.bs).map (·.2) = l) := ⟨hl.symm⟩
  have HLR := Aside0.mk hl
  rw [← hl] at HO HSP HRL o2 o3
  obtain ⟨E, hE⟩ : ∃ E, E = (allB l).length := ⟨_, rfl⟩
  rw [← hE] at HO o2 o3
  have HE3 := Aside0.mk o3
  clear h hok hl hE o1 o3 hpl
  go_enter Try.func5, Try.ntmps5
  go_wp2_with fail
  refine (room_calls _ p t _ HT.out).mono ?_
  rintro e w' ⟨rfl, hw'⟩
  have hw' := hw'.symm
  subst hw'
  go_wp2_with fail
  refine (bytes_calls _ p t _ HT.out).mono ?_
  rintro e w1 ⟨v1, rfl, ho1, hb1⟩
  obtain ⟨A1, c1, rfl, _⟩ := ho1.reads
  have HT1 := Aside0.mk (HT.out.below hb1)
  have HB1 := Aside0.mk hb1
  have hcap : t.bs.length ≤ c1 := by obtain ⟨_, _, e, hc, _⟩ := (QB.of_OB ho1).form; injection e with _ _ e; omega
  have HRD := Aside0.mk (wread_calls w1 t.bs A1 c1 hcap (QB.C (QB.of_OB ho1)) HBY.out (by omega))
  clear ho1 hb1 hcap
  go_wp2_with fail
  refine HRD.out.mono ?_
  rintro e w2 ⟨v2, rfl, hrw, hb2⟩
  rw [HLE.out] at hrw
  rw [HE3.out]
  obtain ⟨A2, c2, rfl⟩ := hrw.form
  have HT2 := Aside0.mk (HT1.out.below hb2)
  have HB2 := Aside0.mk (HB1.out.trans (hb2.mono HB1.out.size))
  have HRW2 := Aside0.mk (hrw.lower HB1.out.size)
  clear hrw hb2 HRD
  go_wp2_with fail
  refine (cut_keep _ p t _ E HT2.out o2).mono ?_
  rintro e w3 ⟨rfl, ht3, hg3⟩
  have HT3 := Aside0.mk ht3
  have HG3 : Aside0 (w.grownBy w3 (some p)) := ⟨grown_below HB2.out hg3⟩
  have HRW3 := Aside0.mk (HRW2.out.move (W' := w3) (fun k h1 h2 => hg3.block k h2 (fun e => by injection e with e; have := HPL.out; omega)))
  clear ht3 hg3
  go_wp2_with fail
  refine (force_keep _ p _ _ HT3.out).mono ?_
  rintro e w4 ⟨rfl, ht4, hg4⟩
  rw [HO.out] at ht4
  have HT4 := Aside0.mk ht4
  have HG4 : Aside0 (w.grownBy w4 (some p)) := ⟨World.grownBy.trans HG3.out hg4⟩
  have HRW4 := Aside0.mk (HRW3.out.move (W' := w4) (fun k h1 h2 => hg4.block k h2 (fun e => by injection e with e; have := HPL.out; omega)))
  clear ht4 hg4
  go_wp2_with fail
  refine (copies_calls w4 l A2 c2 (RW.C HRW4.out (by have := HRL.out; omega)) (fun r hr => by have := (HSP.out r hr).1.2.2; omega) (by have := HRL.out; omega)).mono ?_
  rintro e w5 ⟨v5, rfl, hrw5, hb5'⟩
  obtain ⟨A5, c5, rfl⟩ := hrw5.form
  have hba : Below w5.heap.size w5 (w5.alloc (.cells #[.pointer (some ⟨p, 0, none⟩), .slice A5 l.length c5] 70)) := below_alloc (Below.refl _ _) _
  have hb45 := hb5'.trans (hba.mono hb5'.size)
  have HT5 := Aside0.mk (HT4.out.below hb45)
  have HG5 : Aside0 (w.grownBy (w5.alloc (.cells #[.pointer (some ⟨p, 0, none⟩), .slice A5 l.length c5] 70)) (some p)) := ⟨World.grownBy.trans HG4.out (grown_of_below hb45 _)⟩
  have HRW5 := Aside0.mk (HRW4.out.below hb45)
  have HRV5 := Aside0.mk ((hrw5.below hba).lower (Nat.le_trans HG4.out.size (Nat.le_refl _)))
  have HQ5 : Aside0 (w.heap.size ≤ w5.heap.size) := ⟨Nat.le_trans HG4.out.size hb5'.size⟩
  clear hrw5 hb5' hba hb45
  go_wp2_with fail
  refine bodyPost_ret (v := .tuple #[.pointer (some ⟨w5.heap.size, 0, none⟩), .slice A2 l.length c2, .int .i64 0]) (by simp [results, Try.results5, go_sem]) rfl ?_
  unfold RetOp
  rw [← HLR.out]
  exact ⟨w5.heap.size, A2, c2, .slice A5 l.length c5, rfl, HRW5.out, HQ5.out, heap_alloc_new w5 _, HRV5.out, HT5.out.mono (fun k hk _ => hk.1), HG5.out⟩
end Go.Proofs.Ytobljkhidgbeoaa.Oct
/- WalTwice. -/
namespace Go.Proofs.Ytobljkhidgbeoaa.Oct
open Go.RowKit Go.Proofs.YtobljkhidgbeoaaW.PrintWords Go.Proofs.Ytobljkhidgbeoaa.M
set_option linter.unusedVariables false
set_option linter.unusedSimpArgs false
theorem RetOp.keeps {w w' : World} {p : Nat} {F : Nat → Prop} {t : TS} {e : Ending} (h : RetOp w p F t e w') : w.grownBy w' (some p) := by
  obtain ⟨q, A, c, v, _, _, _, _, _, _, h⟩ := h
  exact h
end Go.Proofs.Ytobljkhidgbeoaa.Oct
