import Derived.Test.YtcnohnieoecpdaaWalR
/- Open. -/
namespace Go.Proofs.Ytcnohnieoecpdaa.Oct
open Go.RowKit Go.Proofs.YtcnohnieoecpdaaW.PrintWords Go.Proofs.Ytcnohnieoecpdaa.M
set_option linter.unusedVariables false
set_option linter.unusedSimpArgs false
/-- any bytes are records, and a rest where no record stands -/
theorem read_parts (b : List Int) (hb : Bytes b) : ∃ (l : List Rc) (rest : List Int), b = allB l ++ rest ∧ (∀ r ∈ l, r.good ∧ Bytes r.2) ∧ ¬ isR rest := by
  induction hm : b.length using Nat.strongRecOn generalizing b with
  | _ m ih =>
    by_cases h : isR b
    · have h4 := h.2.2.2.1
      obtain ⟨g1, g2, g3, g4⟩ := isR_back hb h
      obtain ⟨l, rest, e, hg, hn⟩ := ih (b.drop (7 + lenR b)).length (by rw [List.length_drop]; omega) (b.drop (7 + lenR b)) (hb.drop _) rfl
      refine ⟨recR b :: l, rest, ?_, fun r hr => ?_, hn⟩
      · rw [allB_cons, List.append_assoc, ← e, g2, List.take_append_drop]
      · rcases List.mem_cons.1 hr with rfl | hr
        · exact ⟨g1, g3⟩
        · exact hg r hr
    · exact ⟨[], b, rfl, fun r hr => (nomatch hr), h⟩
def recsOf (b : List Int) : List Rc := (readL 0 b).map (·.2)
theorem read_split {b : List Int} (hb : Bytes b) : ∃ rest, b = allB (recsOf b) ++ rest ∧ (∀ r ∈ recsOf b, r.good ∧ Bytes r.2) ∧ ¬ isR rest ∧ readL 0 b = endsR 0 (recsOf b) := by
  obtain ⟨l, rest, e, hg, hn⟩ := read_parts b hb
  have h1 : readL 0 b = endsR 0 l := by rw [e, readL_allB (fun r hr => (hg r hr).1), readL_no hn, List.append_nil]
  have h2 : recsOf b = l := by unfold recsOf; rw [h1, endsR_map]
  rw [h2]
  exact ⟨rest, e, hg, hn, h1⟩
theorem recsOf_allB {l : List Rc} (hg : ∀ r ∈ l, r.good) : recsOf (allB l) = l := by
  unfold recsOf
  rw [readL_whole hg, endsR_map]
theorem bytes_allB {l : List Rc} (hg : ∀ r ∈ l, r.good ∧ Bytes r.2) : Bytes (allB l) := by
  unfold allB
  intro b hb
  obtain ⟨r, hr, hbr⟩ := List.mem_flatMap.1 hb
  exact Rc.all_bytes (hg r hr).1 (hg r hr).2 b hbr
/-- a tape behind Open -/
def TS.opened (t : TS) : TS := ⟨t.room, allB (recsOf t.bs), (allB (recsOf t.bs)).length⟩
theorem opened_eq {t : TS} (h : t.ok) : (TS.mk t.room (t.bs.take (allB (recsOf t.bs)).length) (min t.forced (allB (recsOf t.bs)).length)).force = t.opened ∧ (allB (recsOf t.bs)).length ≤ t.bs.length ∧ endL (readL 0 t.bs) = ((allB (recsOf t.bs)).length : Int) := by
  obtain ⟨rest, e, hg, hn, h1⟩ := read_split h.2.2.2.2
  have ht0 : ∀ x, t.bs = x ++ rest → t.bs.take x.length = x := fun x e => by rw [e, List.take_left' rfl]
  have ht := ht0 _ e
  refine ⟨?_, ?_, by rw [h1, endL_zero]⟩
  · unfold TS.force TS.opened
    dsimp only
    rw [ht]
  · have := congrArg List.length e
    rw [List.length_append] at this
    omega
theorem recs_le {b : List Int} (hb : b.length ≤ 65536) : (recsOf b).length ≤ 65536 := by
  have := readL_len b 0
  unfold recsOf
  rw [List.length_map]
  omega
theorem recs_small {b : List Int} (hb : Bytes b) : ∀ r ∈ recsOf b, r.good ∧ Bytes r.2 := by
  obtain ⟨rest, e, hg, _⟩ := read_split hb
  exact hg
def RetOp (w : World) (p : Nat) (F : Nat → Prop) (t : TS) (e : Ending) (w' : World) : Prop :=
  ∃ q A c v, e = .returned (.tuple #[.pointer (some ⟨q, 0, none⟩), .slice A (recsOf t.bs).length c, .int .i64 0]) ∧ RW w' w.heap.size (.slice A (recsOf t.bs).length c) (recsOf t.bs) ∧
    w.heap.size ≤ q ∧ w'.heap[q]? = some (.cells #[.pointer (some ⟨p, 0, none⟩), v] 55 (0, 0)) ∧ RW w' w.heap.size v (recsOf t.bs) ∧ TapeAt w' p t.opened F ∧ w.grownBy w' (some p)
set_option maxRecDepth 20000 in
set_option maxHeartbeats 8000000 in
theorem open_calls (w : World) (p : Nat) (t : TS) (F : Nat → Prop) (h : TapeAt w p t F) : Calls Try.prog 21 #[.pointer (some ⟨p, 0, none⟩)] w (RetOp w p F t) := by
  have hok : t.ok := by obtain ⟨_, _, _, _, _, _, h⟩ := h; exact h
  have hpl : p < w.heap.size := by obtain ⟨_, _, hh, _⟩ := h; exact (Array.getElem?_eq_some_iff.1 hh).1
  have HT := Aside0.mk (h.mono (G := fun k => F k ∧ k < w.heap.size) (fun k hk hl => ⟨hk, hl⟩))
  have HPL := Aside0.mk hpl
  obtain ⟨o1, o2, o3⟩ := opened_eq hok
  have HO := Aside0.mk o1
  have HSP := Aside0.mk (recs_small hok.2.2.2.2)
  have HRL := Aside0.mk (recs_le (b := t.bs) (by have := hok.2.1; have := hok.2.2.1; omega))
  have hroom : ((t.room : Int) == 0) = false := by have := hok.1; simp; omega
  have hb5 : t.bs.length ≤ 65536 := by have := hok.2.1; have := hok.2.2.1; omega
  have HBY := Aside0.mk hok.2.2.2.2
  obtain ⟨l, hl⟩ : ∃ l, l = recsOf t.bs := ⟨_, rfl⟩
  have HLE : Aside0 ((readL 0 t.bs).map (·.2) = l) := ⟨hl.symm⟩
  have HLR := Aside0.mk hl
  rw [← hl] at HO HSP HRL o2 o3
  obtain ⟨E, hE⟩ : ∃ E, E = (allB l).length := ⟨_, rfl⟩
  rw [← hE] at HO o2 o3
  have HE3 := Aside0.mk o3
  clear h hok hl hE o1 o3 hpl
  go_enter Try.func21, Try.ntmps21
  go_wp2_with fail
  refine (room_calls _ p t _ HT.out).mono ?_
  rintro e w' ⟨rfl, hw'⟩
  have hw' := hw'.symm
  subst hw'
  go_wp2_with fail
  refine (bytes_calls _ p t _ HT.out).mono ?_
  rintro e w1 ⟨v1, rfl, ho1, hb1⟩
  obtain ⟨A1, c1, rfl, _⟩ := ho1.reads
  have HT1 := Aside0.mk (HT.out.below hb1)
  have HB1 := Aside0.mk hb1
  have hcap : t.bs.length ≤ c1 := by obtain ⟨_, _, e, hc, _⟩ := (QB.of_OB ho1).form; injection e with _ _ e; omega
  have HRD := Aside0.mk (wread_calls w1 t.bs A1 c1 hcap (QB.C (QB.of_OB ho1)) HBY.out (by omega))
  clear ho1 hb1 hcap
  go_wp2_with fail
  refine HRD.out.mono ?_
  rintro e w2 ⟨v2, rfl, hrw, hb2⟩
  rw [HLE.out] at hrw
  rw [HE3.out]
  obtain ⟨A2, c2, rfl⟩ := hrw.form
  have HT2 := Aside0.mk (HT1.out.below hb2)
  have HB2 := Aside0.mk (HB1.out.trans (hb2.mono HB1.out.size))
  have HRW2 := Aside0.mk (hrw.lower HB1.out.size)
  clear hrw hb2 HRD
  go_wp2_with fail
  refine (cut_keep _ p t _ E HT2.out o2).mono ?_
  rintro e w3 ⟨rfl, ht3, hg3⟩
  have HT3 := Aside0.mk ht3
  have HG3 : Aside0 (w.grownBy w3 (some p)) := ⟨grown_below HB2.out hg3⟩
  have HRW3 := Aside0.mk (HRW2.out.move (W' := w3) (fun k h1 h2 => hg3.block k h2 (fun e => by injection e with e; have := HPL.out; omega)))
  clear ht3 hg3
  go_wp2_with fail
  refine (force_keep _ p _ _ HT3.out).mono ?_
  rintro e w4 ⟨rfl, ht4, hg4⟩
  rw [HO.out] at ht4
  have HT4 := Aside0.mk ht4
  have HG4 : Aside0 (w.grownBy w4 (some p)) := ⟨World.grownBy.trans HG3.out hg4⟩
  have HRW4 := Aside0.mk (HRW3.out.move (W' := w4) (fun k h1 h2 => hg4.block k h2 (fun e => by injection e with e; have := HPL.out; omega)))
  clear ht4 hg4
  go_wp2_with fail
  refine (copies_calls w4 l A2 c2 (RW.C HRW4.out (by have := HRL.out; omega)) (fun r hr => by have := (HSP.out r hr).1.2.2; omega) (by have := HRL.out; omega)).mono ?_
  rintro e w5 ⟨v5, rfl, hrw5, hb5'⟩
  obtain ⟨A5, c5, rfl⟩ := hrw5.form
  have hba : Below w5.heap.size w5 (w5.alloc (.cells #[.pointer (some ⟨p, 0, none⟩), .slice A5 l.length c5] 55)) := below_alloc (Below.refl _ _) _
  have hb45 := hb5'.trans (hba.mono hb5'.size)
  have HT5 := Aside0.mk (HT4.out.below hb45)
  have HG5 : Aside0 (w.grownBy (w5.alloc (.cells #[.pointer (some ⟨p, 0, none⟩), .slice A5 l.length c5] 55)) (some p)) := ⟨World.grownBy.trans HG4.out (grown_of_below hb45 _)⟩
  have HRW5 := Aside0.mk (HRW4.out.below hb45)
  have HRV5 := Aside0.mk ((hrw5.below hba).lower (Nat.le_trans HG4.out.size (Nat.le_refl _)))
  have HQ5 : Aside0 (w.heap.size ≤ w5.heap.size) := ⟨Nat.le_trans HG4.out.size hb5'.size⟩
  clear hrw5 hb5' hba hb45
  go_wp2_with fail
  refine bodyPost_ret (v := .tuple #[.pointer (some ⟨w5.heap.size, 0, none⟩), .slice A2 l.length c2, .int .i64 0]) (by simp [results, Try.results21, go_sem]) rfl ?_
  unfold RetOp
  rw [← HLR.out]
  exact ⟨w5.heap.size, A2, c2, .slice A5 l.length c5, rfl, HRW5.out, HQ5.out, heap_alloc_new w5 _, HRV5.out, HT5.out.mono (fun k hk _ => hk.1), HG5.out⟩
end Go.Proofs.Ytcnohnieoecpdaa.Oct
