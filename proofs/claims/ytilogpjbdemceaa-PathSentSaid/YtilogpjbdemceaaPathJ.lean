import Derived.Test.YtilogpjbdemceaaPathI
namespace Go.Proofs.Ytilogpjbdemceaa.Oct
open Go.RowKit Go.Proofs.YtilogpjbdemceaaW.PrintWords Go.Proofs.Ytilogpjbdemceaa.M
set_option linter.unusedVariables false
set_option linter.unusedSimpArgs false
set_option maxHeartbeats 1000000 in
theorem in_calls (w : World) (ls : Bag) (x : List Int) (A B : Option Addr) (c d : Nat) (h : textK.C w A ls.length ls) (hx : Kd.C (Kd.int .u8) w B x.length x) (hm : x ∈ ls) :
    Calls Try.prog 17 #[.slice A ls.length c, .slice B x.length d] w fun e w' => e = .returned (.bool true) ∧ Below w.heap.size w w' := by
  have HL := Aside0.mk h
  have HX := Aside0.mk hx
  have HM : Aside0 (∃ j, j < ls.length ∧ ls.getD j [] = x) := ⟨by
    obtain ⟨j, hj, rfl⟩ := List.getElem_of_mem hm
    exact ⟨j, hj, by rw [List.getD_eq_getElem?_getD, List.getElem?_eq_getElem hj]; rfl⟩⟩
  have hll : ls.length ≤ 9223372036854775807 := h.2.1
  obtain ⟨L2, hL2⟩ : ∃ L2, L2 = x.length := ⟨_, rfl⟩
  have HL2 := Aside0.mk hL2
  rw [← hL2]
  clear h hx hm hL2
  go_enter Try.func17, Try.ntmps17
  go_wp2_with fail
  go_loopw [5] (fun v5 wr => ∃ (k : Nat), k ≤ ls.length ∧ v5 = .int .i64 k ∧ Aside0 (Below w.heap.size w wr) ∧ Aside0 (∀ j, j < k → (strOfNums (ls.getD j [])).toList ≠ (strOfNums x).toList)) (fun v _ => ls.length - (intOf v).toNat)
  case atStart => exact ⟨0, by omega, rfl, ⟨Below.refl _ _⟩, ⟨fun j hj => by omega⟩⟩
  case round =>
    obtain ⟨k, hk, rfl, HB, HN⟩ := hrel
    by_cases hlt : k < ls.length
    · obtain ⟨ad, B1, d1, rfl, hcell, hC⟩ := text_at HL.out hlt
      obtain ⟨q, hq⟩ : ∃ q, q = ls.getD k [] := ⟨_, rfl⟩
      have HQ := Aside0.mk hq
      rw [← hq] at hcell hC
      obtain ⟨n, hn⟩ : ∃ n, n = q.length := ⟨_, rfl⟩
      rw [← hn] at hcell
      obtain ⟨S1, hS1⟩ : ∃ S1, S1 = strOfNums q := ⟨_, rfl⟩
      obtain ⟨S2, hS2⟩ : ∃ S2, S2 = strOfNums x := ⟨_, rfl⟩
      have HS12 := Aside0.mk (And.intro hS1 hS2)
      have HS : Aside0 (∀ W, Below w.heap.size w W → W.cell? (ad.add k) = some (.slice B1 n d1) ∧ (convert 26 9 (.slice B1 n d1)).run Try.prog W = .ok (.string S1) W ∧ (convert 26 9 (.slice B L2 d)).run Try.prog W = .ok (.string S2) W) := ⟨fun W hW => by
        rw [hn, hS1, hS2, HL2.out]
        have hcell' : w.cell? (ad.add k) = some (.slice B1 q.length d1) := by rw [← hn]; exact hcell
        exact ⟨(hW.cell (World.block_lt_of_cell? _ _ hcell')).trans hcell', C_str (Kd.C_below hC hW), C_str (Kd.C_below HX.out hW)⟩⟩
      have HBD : Aside0 (Below w.heap.size w wr.drew) := ⟨below_drew HB.out⟩
      clear hq hn hS1 hS2 hcell hC
      by_cases hE : S1.toList = S2.toList
      · have hE' : (S1.toList == S2.toList) = true := by rw [hE]; exact beq_self_eq_true _
        clear hE
        go_wp2_with fail
        go_region_held_law (fun W => W.cell? (ad.add k) = some (.slice B1 n d1) ∧ (convert 26 9 (.slice B1 n d1)).run Try.prog W = .ok (.string S1) W ∧ (convert 26 9 (.slice B L2 d)).run Try.prog W = .ok (.string S2) W) (exact HS.out _ HBD.out) (fail)
        all_goals
          go_wp2_with fail
          go_ret
          exact ⟨rfl, HBD.out⟩
      · have hE' : (S1.toList == S2.toList) = false := beq_eq_false_iff_ne.2 hE
        have HNE := Aside0.mk hE
        clear hE
        go_wp2_with fail
        go_region_held_law (fun W => W.cell? (ad.add k) = some (.slice B1 n d1) ∧ (convert 26 9 (.slice B1 n d1)).run Try.prog W = .ok (.string S1) W ∧ (convert 26 9 (.slice B L2 d)).run Try.prog W = .ok (.string S2) W) (exact HS.out _ HBD.out) (fail)
        all_goals
          go_wp2_with fail
          refine ⟨⟨k + 1, by omega, by go_num, HBD, ⟨fun j hj => ?_⟩⟩, by simp [intOf]; omega⟩
          by_cases hjk : j = k
          · rw [hjk, ← HQ.out, ← HS12.out.1, ← HS12.out.2]; exact HNE.out
          · exact HN.out j (by omega)
    · exfalso
      obtain ⟨j, hj, e⟩ := HM.out
      exact HN.out j (by omega) (by rw [e])
/-- texts of the arguments, in a row of one's own -/
def SentAt (w W : World) (v : Value) (ls : Bag) : Prop := ∃ vs : List Value, vs.length = ls.length ∧ OwnAt W w.heap.size 26 1 v ls.length vs ∧ ∀ (j : Nat) (u : Value) (l : List Int), vs[j]? = some u → ls[j]? = some l → ∃ A c, u = .slice A l.length c ∧ l.length ≤ c ∧ Kd.C (Kd.int .u8) w A l.length l
theorem QB.C {W : World} {base n c : Nat} {A : Option Addr} {xs : List Int} (h : QB W base (.slice A n c) xs) : Kd.C (Kd.int .u8) W A xs.length xs := by
  obtain ⟨A', c', e, _, _, hr⟩ := h.form
  cases e
  exact hr
theorem SentAt.nil (w W : World) : SentAt w W (.slice none 0 0) [] := ⟨[], rfl, OwnAt.nil _ _ _ _, fun j u l h => by simp at h⟩
theorem SentAt.move {w W W' : World} {v : Value} {ls : Bag} (h : SentAt w W v ls) (hb : ∀ k, v.ownBlock = some k → W'.heap[k]? = W.heap[k]?) : SentAt w W' v ls := by
  obtain ⟨vs, h1, h2, h3⟩ := h
  exact ⟨vs, h1, h2.move hb, h3⟩
theorem SentAt.lt {w W : World} {v : Value} {ls : Bag} (h : SentAt w W v ls) {k : Nat} (e : v.ownBlock = some k) : w.heap.size ≤ k ∧ k < W.heap.size := by
  obtain ⟨vs, h1, h2, h3⟩ := h
  exact h2.block e
theorem SentAt.below {w W W' : World} {v : Value} {ls : Bag} (h : SentAt w W v ls) (hb : Below W.heap.size W W') : SentAt w W' v ls := h.move (fun k e => hb.block k (h.lt e).2)
theorem SentAt.form {w W : World} {v : Value} {ls : Bag} (h : SentAt w W v ls) : ∃ A c, v = .slice A ls.length c ∧ ls.length ≤ c := by
  obtain ⟨vs, h1, h2, h3⟩ := h
  obtain ⟨A, c, e, h, _⟩ := h2.form
  exact ⟨A, c, e, h⟩
theorem SentAt.row {w W : World} {A : Option Addr} {n c : Nat} {ls : Bag} (h : SentAt w W (.slice A n c) ls) (hB : Below w.heap.size w W) (hl : ls.length ≤ 1000) : textK.C W A ls.length ls := by
  obtain ⟨vs, h1, h2, h3⟩ := h
  refine ⟨rfl, by omega, fun hn => ?_⟩
  rcases h2.2 with ⟨_, h0⟩ | ⟨g, off, cap, cur, e, _⟩
  · omega
  injection e with e1 e2 e3
  subst e1 e2
  refine ⟨_, rfl, fun j l hl' => ?_⟩
  have hj : j < ls.length := (List.getElem?_eq_some_iff.1 hl').1
  have hu : vs[j]? = some vs[j] := List.getElem?_eq_getElem (by omega)
  obtain ⟨Au, du, e, hle, hC⟩ := h3 j _ l hu hl'
  rw [e] at hu
  refine ⟨[.slice Au l.length du], rfl, ⟨Au, du, rfl, hle, Kd.C_below hC hB⟩, fun i u hi => ?_⟩
  have hi0 : i = 0 := by have := (List.getElem?_eq_some_iff.1 hi).1; simpa using this
  subst hi0
  obtain rfl : u = .slice Au l.length du := by simpa using hi.symm
  have hsz : textK.sz = 1 := rfl
  rw [hsz, Nat.mul_one, Nat.add_zero, Addr.add_lit]
  exact h2.at hu
/-- the path's own blocks, apart from the row of what was sent -/
abbrev Ap (w : World) (v : Value) : Nat → Prop := fun k => w.heap.size ≤ k ∧ v.ownBlock ≠ some k
abbrev ApIn (w : World) (v : Value) (top : Nat) : Nat → Prop := fun k => (w.heap.size ≤ k ∧ k < top) ∧ v.ownBlock ≠ some k
theorem PathAt.nearA {w W : World} {p : Nat} {v : Value} {s : Bag} (h : PathAt W p s (Ap w v)) : PathAt W p s (ApIn w v W.heap.size) := h.mono (fun k h1 h2 => ⟨⟨h1.1, h2⟩, h1.2⟩)
theorem sent_ret {w W W' : World} {p top : Nat} {bag ls : Bag} {n : Int} {v : Value} {e : Ending} (hB : Below w.heap.size w W) (hv : SentAt w W v ls) (h : RetP W p (ApIn w v top) bag n e W') : e = .returned (.int .i64 n) ∧ PathAt W' p bag (Ap w v) ∧ SentAt w W' v ls ∧ Below w.heap.size w W' ∧ Kept W (ApIn w v top) W' := by
  obtain ⟨rfl, h1, h2⟩ := h
  refine ⟨rfl, h1.mono (fun k hk _ => hk.elim (fun h => ⟨h.1.1, h.2⟩) (fun h => ⟨Nat.le_trans hB.size h, fun e => ?_⟩)), hv.move (fun k e => h2.block k (hv.lt e).2 (fun h => h.2 e)), below_kept hB h2 hB.size (fun k h => h.1.1), h2⟩
  have h : W.heap.size ≤ k := h
  have := (hv.lt e).2
  omega
theorem sent_take {w W W' : World} {p top : Nat} {r : Bag × List Int × Int} {ls : Bag} {v : Value} {e : Ending} (hB : Below w.heap.size w W) (hv : SentAt w W v ls) (h : RetTk W p (ApIn w v top) r e W') :
    ∃ A d, e = .returned (.tuple #[.slice A r.2.1.length d, .int .i64 r.2.2]) ∧ QB W' 0 (.slice A r.2.1.length d) r.2.1 ∧ PathAt W' p r.1 (Ap w v) ∧ SentAt w W' v ls ∧ Below w.heap.size w W' ∧ Kept W (ApIn w v top) W' := by
  obtain ⟨A, d, rfl, hq, _, h1, h2⟩ := h
  refine ⟨A, d, rfl, hq, h1.mono (fun k hk _ => hk.elim (fun h => ⟨h.1.1, h.2⟩) (fun h => ⟨Nat.le_trans hB.size h, fun e => ?_⟩)), hv.move (fun k e => h2.block k (hv.lt e).2 (fun h => h.2 e)), below_kept hB h2 hB.size (fun k h => h.1.1), h2⟩
  have h : W.heap.size ≤ k := h
  have := (hv.lt e).2
  omega
theorem keptA_blk {w W W' : World} {v : Value} {top q : Nat} {o : Obj} (hk : Kept W (ApIn w v top) W') (h : W.heap[q]? = some o) (hq : top ≤ q) : W'.heap[q]? = some o := (hk.block q (Array.getElem?_eq_some_iff.1 h).1 (fun h => by have := h.1.2; omega)).trans h
theorem take_mem (s : Bag) (i : Int) : ((takeB s i).2.2 = 4 ∧ (takeB s i).1 = s) ∨ ((takeB s i).2.2 = 0 ∧ (takeB s i).2.1 ∈ s ∧ ∀ x ∈ (takeB s i).1, x ∈ s) := by
  unfold takeB
  split
  · rename_i h
    have hi : ¬ (i < 0 ∨ (s.length : Int) ≤ i) := fun hn => by rw [there_no hn] at h; exact absurd h (by decide)
    refine .inr ⟨rfl, ?_, fun x hx => List.mem_of_mem_eraseIdx hx⟩
    show s.getD i.toNat [] ∈ s
    rw [List.getD_eq_getElem?_getD, List.getElem?_eq_getElem (show i.toNat < s.length by omega)]
    exact List.getElem_mem _
  · exact .inl ⟨rfl, rfl⟩
theorem send_mem (s : Bag) (ys : List Int) : ∀ x ∈ (sendB s ys).1, x ∈ s ∨ (x = ys ∧ (sendB s ys).2 = 0) := by
  intro x hx
  unfold sendB at hx ⊢
  split at hx
  · exact .inl hx
  split at hx
  · exact .inl hx
  · rename_i h1 h2
    rw [if_neg h1, if_neg h2]
    rcases List.mem_append.1 hx with h | h
    · exact .inl h
    · exact .inr ⟨by simpa using h, rfl⟩
theorem dbl_mem (s : Bag) (i : Int) : ∀ x ∈ (dblB s i).1, x ∈ s := by
  intro x hx
  unfold dblB at hx
  split at hx
  · rename_i h
    have hi : ¬ (i < 0 ∨ (s.length : Int) ≤ i) := fun hn => by rw [there_no hn] at h; exact absurd h (by decide)
    rcases send_mem s _ x hx with h1 | ⟨h1, _⟩
    · exact h1
    · rw [h1, List.getD_eq_getElem?_getD, List.getElem?_eq_getElem (show i.toNat < s.length by omega)]
      exact List.getElem_mem _
  · exact hx
section
variable {ops : Array Oper} {rest : List Oper} {o : Oper} {a : Act} {Q : Exit → Act → World → Prop}
theorem app_sent {w W : World} (hgd : o.guard = none) (s x : Operand) (ho : o.op = .call { callee := .builtin .append, args := #[s, x], argTypes := #[25, 25] })
    (v : Value) (ls : Bag) (B : Option Addr) (c : Nat) (l : List Int) (g : Nat) (hs : a.eval s = v) (hx : a.eval x = .slice (some ⟨g, 0, none⟩) 1 1) (HO : SentAt w W v ls) (hb : W.heap[g]? = some (.cells #[.slice B l.length c] 26 (0, 0))) (HC : Kd.C (Kd.int .u8) w B l.length l) (hcl : l.length ≤ c)
    (hbase : w.heap.size ≤ W.heap.size) (hl : ls.length ≤ 1000000)
    (h : ∀ v1 w1, SentAt w w1 v1 (ls ++ [l]) → W.grownBy w1 v.ownBlock → (v1.ownBlock = v.ownBlock ∨ ∃ b, v1.ownBlock = some b ∧ W.heap.size ≤ b) → wpList Try.prog ops Q rest (a.put o.dst v1) w1) :
    wpList Try.prog ops Q (o :: rest) a W := by
  obtain ⟨vs, h1, h2, h3⟩ := HO
  obtain ⟨i0, hi0, hz0, hz1, hz2⟩ := info_parts info_row
  refine wpList_append_at W hgd s x 25 ho w.heap.size 26 i0 (.slice none 0 0) 1 24 Try.underlying25 hi0 hz0 hz1 hz2 rfl Nat.zero_lt_one v ls.length vs hs h2 (some ⟨g, 0, none⟩) 1 1 [.slice B l.length c] hx rfl (fun _ => ⟨_, rfl, fun j u' hu' => ?_⟩) (fun u' hu' => by rw [List.mem_singleton.1 hu']; rfl) (by simp only [maxLen]; omega) (by omega) hbase ?_
  · have hj : j = 0 := by have := (List.getElem?_eq_some_iff.1 hu').1; simpa using this
    subst hj
    obtain rfl : u' = .slice B l.length c := by simpa using hu'.symm
    rw [Addr.add_lit]
    exact (one_cell hb).1
  · intro v1 w1 ho1 hg hn
    refine h v1 w1 ⟨vs ++ [.slice B l.length c], by simp [h1], by rw [List.length_append]; exact ho1, fun j u' l' hu' hl' => ?_⟩ hg hn
    rcases Nat.lt_or_ge j vs.length with hj | hj
    · rw [List.getElem?_append_left hj] at hu'
      rw [List.getElem?_append_left (by omega)] at hl'
      exact h3 j u' l' hu' hl'
    · rw [List.getElem?_append_right hj] at hu'
      rw [List.getElem?_append_right (by omega)] at hl'
      have hj0 : j - vs.length = 0 := by have := (List.getElem?_eq_some_iff.1 hu').1; simp at this; omega
      rw [hj0] at hu'
      rw [show j - ls.length = 0 by omega] at hl'
      obtain rfl : u' = .slice B l.length c := by simpa using hu'.symm
      obtain rfl : l' = l := by simpa using hl'.symm
      exact ⟨B, c, rfl, hcl, HC⟩
end
set_option maxRecDepth 20000 in
set_option maxHeartbeats 8000000 in
theorem psent_calls (w : World) (l : List POp) (A : Option Addr) (c : Nat) (h : popK.C w A l.length l) (ho : ∀ o ∈ l, POp.ok o) : Calls Try.prog 3 #[.slice A l.length c] w (Yes w) := by
  have HL := Aside0.mk h
  have HOK := Aside0.mk ho
  have hll : l.length ≤ 9223372036854775807 := h.2.1
  clear h ho
  go_enter Try.func3, Try.ntmps3
  go_wp2_with fail
  refine (pnew_at _).mono ?_
  rintro e w1 ⟨rfl, ht, hb⟩
  obtain ⟨p, hp⟩ : ∃ p, p = w.heap.size := ⟨_, rfl⟩
  have HT1 : Aside0 (PathAt w1 p [] (Ap w (.slice none 0 0))) := ⟨by rw [hp]; exact ht.mono (fun k h _ => ⟨by rw [h]; exact Nat.le_refl _, fun e => (nomatch e)⟩)⟩
  rw [← hp]
  have HB1 := Aside0.mk hb
  clear ht hb hp
  go_wp2_with fail
  go_loopw [4, 5] (fun v4 v5 wr => ∃ (i : Nat) (s ls : Bag), i ≤ l.length ∧ i ≤ 100 ∧ ls.length ≤ i ∧ v5 = .int .i64 i ∧ Aside0 (Below w.heap.size w wr) ∧ Aside0 (SentAt w wr v4 ls) ∧ Aside0 (PathAt wr p s (Ap w v4)) ∧ Aside0 (∀ x ∈ s, x ∈ ls)) (fun _ v _ => l.length - (intOf v).toNat)
  case atStart => exact ⟨0, [], [], by omega, by omega, by simp, rfl, HB1, ⟨SentAt.nil _ _⟩, HT1, ⟨fun x h => (nomatch h)⟩⟩
  case round =>
    obtain ⟨i, s, ls, hi, hi60, hli, rfl, HB, HV, HT, HS⟩ := hrel
    obtain ⟨A4, c4, rfl, hlc⟩ := HV.out.form
    have hcase : (i < l.length ∧ i < 100) ∨ i = l.length ∨ (i < l.length ∧ i = 100) := by omega
    rcases hcase with ⟨hlt, h60⟩ | hend
    · obtain ⟨ad, B, c1, rfl, k0, k1, k2, k3, k4, hcap, hrd⟩ := pop_at HL.out hlt (0, 0, 0, [], 0)
      have HM : Aside0 (l.getD i (0, 0, 0, [], 0) ∈ l) := ⟨by rw [List.getD_eq_getElem?_getD, List.getElem?_eq_getElem hlt]; exact List.getElem_mem hlt⟩
      have HOI := Aside0.mk (HOK.out _ HM.out)
      obtain ⟨o, ho⟩ : ∃ o, o = l.getD i (0, 0, 0, [], 0) := ⟨_, rfl⟩
      rw [← ho] at k0 k1 k2 k3 k4 hcap HOI hrd
      clear ho HM
      obtain ⟨kd, ii, aa, b, yy⟩ := o
      dsimp only at k0 k1 k2 k3 k4 hcap hrd
      have hbl : b.length ≤ 9223372036854775807 := hrd.2.1
      have HRD := Aside0.mk hrd
      have HLC := Aside0.mk hcap
      obtain ⟨k0, k1, k2, k3, k4⟩ : wr.cell? (ad.add (i * 5)) = some (.int .i64 kd) ∧ wr.cell? ⟨(ad.add (i * 5)).block, (ad.add (i * 5)).off + 1, none⟩ = some (.int .i64 ii) ∧ wr.cell? ⟨(ad.add (i * 5)).block, (ad.add (i * 5)).off + 2, none⟩ = some (.int .i64 aa) ∧ wr.cell? ⟨(ad.add (i * 5)).block, (ad.add (i * 5)).off + 3, none⟩ = some (.slice B b.length c1) ∧ wr.cell? ⟨(ad.add (i * 5)).block, (ad.add (i * 5)).off + 4, none⟩ = some (.int .u8 yy) :=
        ⟨(HB.out.cell (World.block_lt_of_cell? _ _ k0)).trans k0, (HB.out.cell (World.block_lt_of_cell? _ _ k1)).trans k1, (HB.out.cell (World.block_lt_of_cell? _ _ k2)).trans k2, (HB.out.cell (World.block_lt_of_cell? _ _ k3)).trans k3, (HB.out.cell (World.block_lt_of_cell? _ _ k4)).trans k4⟩
      clear hrd
      by_cases h5 : 1000 < (b.length : Int)
      · go_wp2_with fail
        refine (palive_calls _).mono ?_
        rintro e w3 ⟨rfl, hb3⟩
        have HB3 := Aside0.mk ((below_alloc HB.out _).trans (hb3.mono (below_alloc HB.out _).size))
        clear hb3
        go_wp2_with fail
        go_ret
        exact ⟨rfl, HB3.out⟩
      · have hk : kd = 0 ∨ kd = 1 ∨ kd = 2 ∨ (kd ≠ 0 ∧ kd ≠ 1 ∧ kd ≠ 2) := by omega
        have HTN : Aside0 (∀ W, Below wr.heap.size wr W → PathAt W p s (ApIn w (.slice A4 ls.length c4) wr.heap.size)) := ⟨fun W hW => HT.out.nearA.below hW⟩
        have hs0 : w.heap.size ≤ wr.heap.size := HB.out.size
        have h1000 : (b.length : Int) ≤ 1000 := by omega
        clear h5
        rcases hk with hk | hk | hk | hk
        · have b0 : (kd == 0) = true := beq_iff_eq.2 hk
          clear hk
          go_wp2_with fail
          obtain ⟨w0, hw0⟩ : ∃ w0, w0 = wr.alloc (.cells #[.int .i64 kd, .int .i64 ii, .int .i64 aa, .slice B b.length c1, .int .u8 yy] 28) := ⟨_, rfl⟩
          have hb0 : Below wr.heap.size wr w0 := by rw [hw0]; exact below_alloc (Below.refl _ _) _
          have hh0 : w0.heap[wr.heap.size]? = some (.cells #[.int .i64 kd, .int .i64 ii, .int .i64 aa, .slice B b.length c1, .int .u8 yy] 28 (0, 0)) := by rw [hw0]; exact heap_alloc_new wr _
          rw [← hw0]
          have HB0 := Aside0.mk hb0
          have HH0 := Aside0.mk hh0
          have HBW := Aside0.mk (HB.out.trans (hb0.mono hs0))
          have HV0 := Aside0.mk (HV.out.below hb0)
          clear hw0 hb0 hh0 k0 k1 k2 k3 k4
          refine (psend_calls _ p _ _ B c1 b (HTN.out _ HB0.out) (Kd.C_below HRD.out HBW.out) HOI.out.2.2.2.1).mono ?_
          intro e w2 hr
          obtain ⟨rfl, ht, hv, hb, hk⟩ := sent_ret HBW.out HV0.out hr
          have HH2 := Aside0.mk (keptA_blk hk HH0.out (Nat.le_refl _))
          obtain ⟨e0, e1, e2, e3, e4⟩ := five_cells HH2.out
          have HSM := Aside0.mk (send_mem s b)
          obtain ⟨er, her⟩ : ∃ er, er = (sendB s b).2 := ⟨_, rfl⟩
          obtain ⟨s2, hs2⟩ : ∃ s2, s2 = (sendB s b).1 := ⟨_, rfl⟩
          rw [← hs2] at ht
          rw [← her]
          have HT2 := Aside0.mk ht
          have HB2 := Aside0.mk hb
          have HV2 := Aside0.mk hv
          have HES := Aside0.mk (And.intro her hs2)
          clear hr ht hv hb hk her hs2
          by_cases he : er = 0
          · have hE : (er == 0) = true := by simpa using he
            clear he
            go_wp2_with ((with_reducible refine gate_dst (N := 46) rfl ?_); at_builtin; refine app_sent rfl (.tmp 42) (.tmp 45) rfl (.slice A4 ls.length c4) ls B c1 b w2.heap.size rfl rfl (HV2.out.below (below_alloc (Below.refl _ _) _)) (heap_alloc_new w2 _) HRD.out HLC.out (Nat.le_trans HB2.out.size (by simp)) (by omega) ?_; intro v1 w3 ho1 hg1 hn1; have HO1 := Aside0.mk ho1; have HG1 := Aside0.mk hg1; have HN1 := Aside0.mk hn1; clear ho1 hg1 hn1)
            refine ⟨⟨i + 1, s2, ls ++ [b], by omega, by omega, by simp; omega, by go_num, ?_, HO1, ?_, ⟨fun x hx => ?_⟩⟩, by simp [intOf]; omega⟩
            · exact ⟨(below_alloc HB2.out _).grown HG1.out (below_alloc HB2.out _).size (fun k e => (HV2.out.lt e).1)⟩
            · have ht1 := HT2.out.nearA.below (below_alloc (Below.refl w2.heap.size w2) (.cells #[.slice B b.length c1] 26))
              refine ⟨(ht1.step (fun k h1 h2 => HG1.out.block k h2 (fun e => h1.2 e.symm))).mono (fun k h1 h2 => ⟨h1.1.1, fun e => ?_⟩)⟩
              rcases HN1.out with h | ⟨b', h, hb'⟩
              · exact h1.2 (h ▸ e)
              · have h3 := h.symm.trans e
                injection h3 with h3
                have := h1.1.2
                simp at hb'
                omega
            · rw [HES.out.2] at hx
              rcases HSM.out x hx with h | ⟨h, _⟩
              · exact List.mem_append_left _ (HS.out x h)
              · rw [h]; simp
          · have hE : (er == 0) = false := by simpa using he
            have HNE := Aside0.mk he
            clear he
            go_wp2_with fail
            refine ⟨⟨i + 1, s2, ls, by omega, by omega, by omega, by go_num, HB2, HV2, HT2, ⟨fun x hx => ?_⟩⟩, by simp [intOf]; omega⟩
            rw [HES.out.2] at hx
            rcases HSM.out x hx with h | ⟨_, h⟩
            · exact HS.out x h
            · exact absurd (HES.out.1.trans h) HNE.out
        · have b0 : (kd == 0) = false := beq_eq_false_iff_ne.2 (by omega)
          have b1 : (kd == 1) = true := beq_iff_eq.2 hk
          clear hk
          go_wp2_with fail
          obtain ⟨w0, hw0⟩ : ∃ w0, w0 = wr.alloc (.cells #[.int .i64 kd, .int .i64 ii, .int .i64 aa, .slice B b.length c1, .int .u8 yy] 28) := ⟨_, rfl⟩
          have hb0 : Below wr.heap.size wr w0 := by rw [hw0]; exact below_alloc (Below.refl _ _) _
          have hh0 : w0.heap[wr.heap.size]? = some (.cells #[.int .i64 kd, .int .i64 ii, .int .i64 aa, .slice B b.length c1, .int .u8 yy] 28 (0, 0)) := by rw [hw0]; exact heap_alloc_new wr _
          rw [← hw0]
          have HB0 := Aside0.mk hb0
          have HH0 := Aside0.mk hh0
          have HBW := Aside0.mk (HB.out.trans (hb0.mono hs0))
          have HV0 := Aside0.mk (HV.out.below hb0)
          clear hw0 hb0 hh0 k0 k1 k2 k3 k4
          refine (ptake_calls _ p _ _ ii (HTN.out _ HB0.out)).mono ?_
          intro e w2 hr
          obtain ⟨A2, d2, rfl, hq, ht, hv, hb, hk⟩ := sent_take HBW.out HV0.out hr
          have htm := take_mem s ii
          obtain ⟨s2, hs2⟩ : ∃ s2, s2 = (takeB s ii).1 := ⟨_, rfl⟩
          obtain ⟨x, hx⟩ : ∃ x, x = (takeB s ii).2.1 := ⟨_, rfl⟩
          rw [← hs2] at ht htm
          rw [← hx] at hq htm ⊢
          have HT2 := Aside0.mk ht
          have HB2 := Aside0.mk hb
          have HV2 := Aside0.mk hv
          have HQ2 := Aside0.mk hq
          clear hr ht hv hb hk hs2 hx hq
          rcases htm with ⟨h1, h2⟩ | ⟨h1, h2, h3⟩
          · rw [h1]
            have HS2 : Aside0 (∀ y ∈ s2, y ∈ ls) := ⟨by rw [h2]; exact HS.out⟩
            clear h1 h2
            obtain ⟨L, hL⟩ : ∃ L, L = x.length := ⟨_, rfl⟩
            rw [← hL]
            clear hL
            go_wp2_with fail
            exact ⟨⟨i + 1, s2, ls, by omega, by omega, by omega, by go_num, HB2, HV2, HT2, HS2⟩, by simp [intOf]; omega⟩
          · rw [h1]
            have HS2 : Aside0 (∀ y ∈ s2, y ∈ ls) := ⟨fun y hy => HS.out y (h3 y hy)⟩
            have HXM := Aside0.mk (HS.out x h2)
            clear h1 h2 h3
            go_wp2_with fail
            refine (in_calls _ ls x A4 A2 c4 d2 (HV2.out.row HB2.out (by omega)) HQ2.out.C HXM.out).mono ?_
            rintro e w3 ⟨rfl, hb3⟩
            have HT3 := Aside0.mk (HT2.out.below hb3)
            have HB3 := Aside0.mk (HB2.out.trans (hb3.mono HB2.out.size))
            have HV3 := Aside0.mk (HV2.out.below hb3)
            clear hb3
            go_wp2_with fail
            exact ⟨⟨i + 1, s2, ls, by omega, by omega, by omega, by go_num, HB3, HV3, HT3, HS2⟩, by simp [intOf]; omega⟩
        · have b0 : (kd == 0) = false := beq_eq_false_iff_ne.2 (by omega)
          have b1 : (kd == 1) = false := beq_eq_false_iff_ne.2 (by omega)
          have b2 : (kd == 2) = true := beq_iff_eq.2 hk
          clear hk
          go_wp2_with fail
          obtain ⟨w0, hw0⟩ : ∃ w0, w0 = wr.alloc (.cells #[.int .i64 kd, .int .i64 ii, .int .i64 aa, .slice B b.length c1, .int .u8 yy] 28) := ⟨_, rfl⟩
          have hb0 : Below wr.heap.size wr w0 := by rw [hw0]; exact below_alloc (Below.refl _ _) _
          have hh0 : w0.heap[wr.heap.size]? = some (.cells #[.int .i64 kd, .int .i64 ii, .int .i64 aa, .slice B b.length c1, .int .u8 yy] 28 (0, 0)) := by rw [hw0]; exact heap_alloc_new wr _
          rw [← hw0]
          have HB0 := Aside0.mk hb0
          have HH0 := Aside0.mk hh0
          have HBW := Aside0.mk (HB.out.trans (hb0.mono hs0))
          have HV0 := Aside0.mk (HV.out.below hb0)
          clear hw0 hb0 hh0 k0 k1 k2 k3 k4
          refine (pdbl_calls _ p _ _ ii (HTN.out _ HB0.out)).mono ?_
          intro e w2 hr
          obtain ⟨rfl, ht, hv, hb, hk⟩ := sent_ret HBW.out HV0.out hr
          have HDM := Aside0.mk (dbl_mem s ii)
          obtain ⟨s2, hs2⟩ : ∃ s2, s2 = (dblB s ii).1 := ⟨_, rfl⟩
          obtain ⟨er, her⟩ : ∃ er, er = (dblB s ii).2 := ⟨_, rfl⟩
          rw [← hs2] at ht HDM
          rw [← her]
          have HT2 := Aside0.mk ht
          have HB2 := Aside0.mk hb
          have HV2 := Aside0.mk hv
          clear hr ht hv hb hk hs2 her
          go_wp2_with fail
          exact ⟨⟨i + 1, s2, ls, by omega, by omega, by omega, by go_num, HB2, HV2, HT2, ⟨fun y hy => HS.out y (HDM.out y hy)⟩⟩, by simp [intOf]; omega⟩
        · obtain ⟨e0, e1, e2⟩ := hk
          have b0 : (kd == 0) = false := beq_eq_false_iff_ne.2 e0
          have b1 : (kd == 1) = false := beq_eq_false_iff_ne.2 e1
          have b2 : (kd == 2) = false := beq_eq_false_iff_ne.2 e2
          have HT2 := Aside0.mk (HT.out.below (below_alloc (Below.refl wr.heap.size wr) (.cells #[.int .i64 kd, .int .i64 ii, .int .i64 aa, .slice B b.length c1, .int .u8 yy] 28)))
          have HV2 := Aside0.mk (HV.out.below (below_alloc (Below.refl wr.heap.size wr) (.cells #[.int .i64 kd, .int .i64 ii, .int .i64 aa, .slice B b.length c1, .int .u8 yy] 28)))
          have HB2 := Aside0.mk (below_alloc HB.out (.cells #[.int .i64 kd, .int .i64 ii, .int .i64 aa, .slice B b.length c1, .int .u8 yy] 28))
          clear e0 e1 e2
          go_wp2_with fail
          exact ⟨⟨i + 1, s, ls, by omega, by omega, by omega, by go_num, HB2, HV2, HT2, HS⟩, by simp [intOf]; omega⟩
    · have HLL : Aside0 (ls.length ≤ 1000) := ⟨by omega⟩
      have hs256 := HT.out.is.2.2.1
      rcases hend with rfl | ⟨hlt, rfl⟩
      all_goals
        go_wp2_with fail
        refine (pall_calls _ p _ _ HT.out).mono ?_
        rintro e w2 ⟨A2, d2, rfl, hx, hb⟩
        have HX2 : Aside0 (∀ W, Below w2.heap.size w2 W → Txts W wr.heap.size (.slice A2 s.length d2) s) := ⟨fun W hW => hx.below hW⟩
        have HB2 := Aside0.mk (HB.out.trans (hb.mono HB.out.size))
        have HV2 := Aside0.mk (HV.out.below hb)
        clear hx hb
        go_wp2_with fail
        go_loopw [10] (fun v10 wq => ∃ k : Nat, k ≤ s.length ∧ v10 = .int .i64 k ∧ Aside0 (Below w2.heap.size w2 wq)) (fun v _ => s.length - (intOf v).toNat)
        case atStart => exact ⟨0, by omega, rfl, ⟨Below.refl _ _⟩⟩
        case round =>
          obtain ⟨k, hk, rfl, HR⟩ := hrel
          by_cases hlt2 : k < s.length
          · obtain ⟨g1, o1, A1, f1, e1, k1, q1⟩ := (HX2.out _ HR.out).get hlt2
            subst e1
            have HXM : Aside0 (s.getD k [] ∈ ls) := ⟨HS.out _ (by rw [List.getD_eq_getElem?_getD, List.getElem?_eq_getElem hlt2]; exact List.getElem_mem hlt2)⟩
            obtain ⟨x, hx⟩ : ∃ x, x = s.getD k [] := ⟨_, rfl⟩
            rw [← hx] at k1 q1 HXM
            have HQ := Aside0.mk q1
            have HVR := Aside0.mk (HV2.out.below HR.out)
            have HBR := Aside0.mk (HB2.out.trans (HR.out.mono HB2.out.size))
            clear hx q1
            go_wp2_with fail
            refine (in_calls _ ls x A4 A1 c4 f1 (HVR.out.row HBR.out HLL.out) HQ.out.C HXM.out).mono ?_
            rintro e w3 ⟨rfl, hb3⟩
            have HR3 := Aside0.mk (HR.out.trans (hb3.mono HR.out.size))
            clear hb3 k1
            go_wp2_with fail
            exact ⟨⟨k + 1, by omega, by go_num, HR3⟩, by simp [intOf]; omega⟩
          · obtain rfl : k = s.length := by omega
            have HBR := Aside0.mk (HB2.out.trans (HR.out.mono HB2.out.size))
            go_wp2_with fail
            refine (palive_calls _).mono ?_
            rintro e w3 ⟨rfl, hb3⟩
            have HB3 := Aside0.mk (HBR.out.trans (hb3.mono HBR.out.size))
            clear hb3
            go_wp2_with fail
            go_ret
            exact ⟨rfl, HB3.out⟩
end Go.Proofs.Ytilogpjbdemceaa.Oct
