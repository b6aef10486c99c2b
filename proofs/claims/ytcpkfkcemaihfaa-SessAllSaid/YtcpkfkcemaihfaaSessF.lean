import Derived.Test.YtcpkfkcemaihfaaSessE
import Derived.Test.YtcpkfkcemaihfaaRead
/- alive; SessNobody. -/
namespace Go.Proofs.Ytcpkfkcemaihfaa.Oct
open Go.RowKit Go.Proofs.YtcpkfkcemaihfaaW.PrintWords Go.Proofs.Ytcpkfkcemaihfaa.M
set_option linter.unusedVariables false
set_option linter.unusedSimpArgs false
theorem lit_reads (w : World) (xs : List Int) (n : Nat) (fr : Nat × Nat) (hn : n = w.heap.size) (hm : xs.length ≤ 100) : Kd.C (Kd.int .u8) (w.alloc (.cells (nums .u8 xs).toArray 5 fr)) (some ⟨n, 0, none⟩) xs.length xs := by
  subst hn
  exact block_reads xs (heap_alloc_new w _) (by omega)
theorem QB.string {W : World} {base : Nat} {v : Value} {xs : List Int} (h : QB W base v xs) : (convert 38 9 v).run Try.prog W = .ok (.string (strOfNums xs)) W := by
  obtain ⟨A, c, rfl, _, _, hr⟩ := h.form
  exact Kd.C_string Try.underlying38 Try.underlying5 Try.underlying9 hr
def InB (lo hi : Nat) (k : Nat) : Prop := lo ≤ k ∧ k < hi
/-- an end of the call's own -/
theorem EndAt.up {W : World} {p base : Nat} {s : Es} {F : Nat → Prop} (h : EndAt W p s F) (hF : ∀ k, F k → base ≤ k) : EndAt W p s (InB base W.heap.size) := h.mono (fun k hk hl => ⟨hF k hk, hl⟩)
theorem rete_in {w W W' : World} {p : Nat} {s : Es} {n : Int} {e : Ending} {top : Nat} (hb : Below w.heap.size w W) (hr : RetE W p (InB w.heap.size top) s n e W') : e = .returned (.int .i64 n) ∧ EndAt W' p s (InB w.heap.size W'.heap.size) ∧ Below w.heap.size w W' ∧ (∀ k, top ≤ k → k < W.heap.size → W'.heap[k]? = W.heap[k]?) := by
  obtain ⟨he, ht, hk⟩ := hr
  refine ⟨he, ht.up (fun k h => h.elim (fun h => h.1) (fun h => Nat.le_trans hb.size h)), below_kept hb hk hb.size (fun k h => h.1), fun k h1 h2 => hk.block k h2 (fun h => by have := h.2; omega)⟩
set_option maxRecDepth 20000 in
set_option maxHeartbeats 8000000 in
theorem ealive_calls (w : World) : Calls Try.prog 11 #[] w fun e w' => e = .returned (.bool true) ∧ Below w.heap.size w w' := by
  have kc := fun (w : World) (C : Array Value) (n c : Nat) => Lib.run_convert_bytes_const (P := Try.prog) w 38 5 C n c Try.underlying38 Try.underlying5
  go_enter Try.func11, Try.ntmps11
  go_wp2_with fail
  refine (enew_good _ 1 2 (by decide) (by decide)).mono ?_
  rintro e w1 ⟨rfl, ht, hb⟩
  obtain ⟨p, hp⟩ : ∃ p, p = w.heap.size := ⟨_, rfl⟩
  have HT1 : Aside0 (EndAt w1 p (newE 1 2) (InB w.heap.size w1.heap.size)) := ⟨by rw [hp]; exact ht.up (base := w.heap.size) (fun k hk => by rw [hk]; exact Nat.le_refl _)⟩
  have HB1 := Aside0.mk hb
  rw [← hp]
  clear ht hb hp
  go_wp2_with fail
  refine (enew_bad _ 0 2 (.inl rfl)).mono ?_
  rintro e w1' ⟨rfl, hw⟩
  have hw := hw.symm
  subst hw
  go_wp2_with fail
  have hbl : Below w1.heap.size w1 (w1.alloc (.cells #[.int .u8 97] 5 (1, 2))) := below_alloc (Below.refl _ _) _
  have HBA := Aside0.mk (HB1.out.trans (hbl.mono HB1.out.size))
  have HTA := Aside0.mk (HT1.out.below hbl)
  have hbs := hbl.size
  clear hbl
  refine (eput_calls _ p (newE 1 2) _ _ 1 [97] HTA.out (lit_reads w1 [97] _ (1, 2) rfl (by decide)) (by unfold Bytes Byte; decide)).mono ?_
  intro e w2 hr
  obtain ⟨rfl, ht, hb, _⟩ := rete_in HBA.out hr
  have HT2 := Aside0.mk ht
  have HB2 := Aside0.mk hb
  clear hr ht hb hbs
  go_wp2_with fail
  have hbl : Below w2.heap.size w2 (w2.alloc (.cells #[.int .u8 98] 5 (1, 2))) := below_alloc (Below.refl _ _) _
  have HBB := Aside0.mk (HB2.out.trans (hbl.mono HB2.out.size))
  have HTB := Aside0.mk (HT2.out.below hbl)
  clear hbl
  refine (eput_calls _ p _ _ _ 1 [98] HTB.out (lit_reads w2 [98] _ (1, 2) rfl (by decide)) (by unfold Bytes Byte; decide)).mono ?_
  intro e w3 hr
  obtain ⟨rfl, ht, hb, _⟩ := rete_in HBB.out hr
  have HT3 := Aside0.mk ht
  have HB3 := Aside0.mk hb
  clear hr ht hb
  go_wp2_with fail
  have hbl : Below w3.heap.size w3 (w3.alloc (.cells #[.int .u8 99] 5 (1, 2))) := below_alloc (Below.refl _ _) _
  have HBC := Aside0.mk (HB3.out.trans (hbl.mono HB3.out.size))
  have HTC := Aside0.mk (HT3.out.below hbl)
  clear hbl
  refine (eput_calls _ p _ _ _ 1 [99] HTC.out (lit_reads w3 [99] _ (1, 2) rfl (by decide)) (by unfold Bytes Byte; decide)).mono ?_
  intro e w4 hr
  obtain ⟨rfl, ht, hb, _⟩ := rete_in HBC.out hr
  have hs4 : ((((newE 1 2).put [97]).1.put [98]).1.put [99]).1 = ⟨1, 2, [[97], [98], [99]], 0, 0⟩ := rfl
  rw [hs4] at ht
  have HT4 := Aside0.mk ht
  have HB4 := Aside0.mk hb
  clear hr ht hb hs4
  go_wp2_with fail
  refine (eframes_calls _ p _ _ HT4.out).mono ?_
  rw [show Es.frames ⟨1, 2, [[97], [98], [99]], 0, 0⟩ = [⟨1, 0, 0, [97]⟩, ⟨1, 1, 0, [98]⟩] from rfl]
  rintro e w5 ⟨A5, c5, rfl, hf, hb⟩
  have HT5 := Aside0.mk (HT4.out.below hb)
  have HB5 := Aside0.mk (HB4.out.trans (hb.mono HB4.out.size))
  have HF5 := Aside0.mk hf
  have HSZ := Aside0.mk hb.size
  clear hf hb
  dsimp only [List.length_cons, List.length_nil]
  go_wp2_with fail
  refine (eon_calls _ p _ _ ⟨1, 0, 1, []⟩ none 0 HT5.out (Kd.C_nil _ _) ⟨by decide, by decide, by decide, Bytes.nil⟩ (by decide) (fun W _ => Kd.C_nil _ _)).mono ?_
  rw [show Es.on ⟨1, 2, [[97], [98], [99]], 0, 0⟩ ⟨1, 0, 1, []⟩ = (⟨1, 2, [[98], [99]], 1, 0⟩, [], 0) from rfl]
  rintro e w6 ⟨A6, d6, rfl, ho6, ht6, hk6⟩
  have HT6 := Aside0.mk ht6
  have HB6 := Aside0.mk (below_kept HB5.out hk6 HB5.out.size (fun k h => h.1))
  have HF6 := Aside0.mk (HF5.out.move (fun k h1 h2 => hk6.block k h2 (fun h => by have := h.2; omega)))
  clear ho6 ht6 hk6
  go_wp2_with fail
  refine (eon_calls _ p _ _ ⟨2, 0, 0, []⟩ none 0 HT6.out (Kd.C_nil _ _) ⟨by decide, by decide, by decide, Bytes.nil⟩ (by decide) (fun W _ => Kd.C_nil _ _)).mono ?_
  rw [show Es.on ⟨1, 2, [[98], [99]], 1, 0⟩ ⟨2, 0, 0, []⟩ = (⟨1, 2, [[98], [99]], 1, 0⟩, [], 90) from rfl]
  rintro e w7 ⟨A7, d7, rfl, ho7, ht7, hk7⟩
  have HT7 := Aside0.mk ht7
  have HB7 := Aside0.mk (below_kept HB6.out hk7 HB6.out.size (fun k h => h.1))
  have HF7 := HF6.out.move (W' := w7) (fun k h1 h2 => hk7.block k h2 (fun h => by have := h.2; omega))
  obtain ⟨g, off, Au, du, rfl, hg, x0, x1, x2, x3, hq⟩ := HF7.get (j := 1) (f := ⟨1, 1, 0, [98]⟩) rfl
  have cv := hq.string
  have hs98 : strOfNums [98] = { data := #[98] } := by kernel_rfl
  rw [hs98] at cv
  dsimp only [List.length_cons, List.length_nil] at x3 cv ⊢
  clear ho7 ht7 hk7 HF7 x0 x2 hq hg hs98
  go_wp2_with fail
  refine (ewaiting_calls _ p _ _ HT7.out).mono ?_
  rintro e w8 ⟨rfl, rfl⟩
  go_wp2_with fail
  go_ret
  exact ⟨rfl, HB7.out⟩
set_option maxHeartbeats 4000000 in
theorem snobody_calls (w : World) (f : FR) (A B : Option Addr) (n m c d : Nat) (hm : m = f.d.length) (hn : n ≤ 140737488355328) (hm2 : m ≤ 140737488355328) :
    Calls Try.prog 5 #[.slice A n c, .agg #[.int .u32 f.s, .int .i64 f.q, .int .i64 f.k, .slice B m d]] w (Yes w) := by
  obtain ⟨fs, fq, fk, fd⟩ := f
  dsimp only at hm ⊢
  clear hm
  obtain ⟨w0, hw0⟩ : ∃ w0, w0 = w.alloc (.cells #[.int .u32 fs, .int .i64 fq, .int .i64 fk, .slice B m d] 42) := ⟨_, rfl⟩
  have HW0 := Aside0.mk hw0
  have HB0 : Aside0 (Below w.heap.size w w0) := ⟨by rw [hw0]; exact below_alloc (Below.refl _ _) _⟩
  have HH0 : Aside0 (w0.heap[w.heap.size]? = some (.cells #[.int .u32 fs, .int .i64 fq, .int .i64 fk, .slice B m d] 42 (0, 0))) := ⟨by rw [hw0]; exact heap_alloc_new w _⟩
  clear hw0
  have hcase : (1000 : Int) < (n : Int) ∨ (¬ (1000 : Int) < (n : Int) ∧ (1000 : Int) < (m : Int)) ∨ (¬ (1000 : Int) < (n : Int) ∧ ¬ (1000 : Int) < (m : Int)) := by omega
  rcases hcase with h1 | ⟨h1, h2⟩ | ⟨h1, h2⟩
  · go_enter Try.func5, Try.ntmps5
    go_wp2_with fail
    rw [← HW0.out]
    refine (ealive_calls _).mono ?_
    rintro e w3 ⟨rfl, hb3⟩
    have HB3 := Aside0.mk (HB0.out.trans (hb3.mono HB0.out.size))
    clear hb3
    go_wp2_with fail
    go_ret
    exact ⟨rfl, HB3.out⟩
  · go_enter Try.func5, Try.ntmps5
    go_wp2_with fail
    rw [← HW0.out]
    refine (ealive_calls _).mono ?_
    rintro e w3 ⟨rfl, hb3⟩
    have HB3 := Aside0.mk (HB0.out.trans (hb3.mono HB0.out.size))
    clear hb3
    go_wp2_with fail
    go_ret
    exact ⟨rfl, HB3.out⟩
  · go_enter Try.func5, Try.ntmps5
    go_wp2_with fail
    rw [← HW0.out]
    obtain ⟨w1, hw1⟩ : ∃ w1, w1 = w0.alloc (.cells #[.int .u32 0, .int .i64 0, .slice none 0 0, .int .i64 0, .int .i64 0] 61) := ⟨_, rfl⟩
    have hb1 : Below w0.heap.size w0 w1 := by rw [hw1]; exact below_alloc (Below.refl _ _) _
    have HB1 := Aside0.mk (HB0.out.trans (hb1.mono HB0.out.size))
    have HH1 := Aside0.mk (blk_keep HH0.out hb1)
    obtain ⟨p6, hp6⟩ : ∃ p6, p6 = w.heap.size + 1 := ⟨_, rfl⟩
    have hsz : w0.heap.size = w.heap.size + 1 := by rw [HW0.out]; simp
    have HN1 : Aside0 (NoEnd w1 (.pointer (some ⟨p6, 0, none⟩))) := ⟨.inr ⟨p6, rfl, by rw [hw1, hp6, ← hsz]; exact heap_alloc_new w0 _⟩⟩
    rw [← hw1, ← hp6]
    clear hb1 hw1 hp6 hsz
    obtain ⟨t0, t1, t2, t3⟩ := four_at HH1.out
    refine (eon_no _ _ fs fq fk B m d (.inl rfl)).mono ?_
    rintro e w2 ⟨rfl, hb2⟩
    have HB2 := Aside0.mk (HB1.out.trans (hb2.mono HB1.out.size))
    have HN2 := Aside0.mk (HN1.out.below hb2)
    have HH2 := Aside0.mk (blk_keep HH1.out hb2)
    clear hb2 t0 t1 t2 t3
    obtain ⟨t0, t1, t2, t3⟩ := four_at HH2.out
    go_wp2_with fail
    refine (eon_no _ _ fs fq fk B m d HN2.out).mono ?_
    rintro e w3 ⟨rfl, hb3⟩
    have HB3 := Aside0.mk (HB2.out.trans (hb3.mono HB2.out.size))
    have HN3 := Aside0.mk (HN2.out.below hb3)
    clear hb3 t0 t1 t2 t3
    go_wp2_with fail
    refine (ealive_calls _).mono ?_
    rintro e w4 ⟨rfl, hb4⟩
    have HB4 := Aside0.mk (HB3.out.trans (hb4.mono HB3.out.size))
    have HN4 := Aside0.mk (HN3.out.below hb4)
    clear hb4
    go_wp2_with (first
      | (go_at_call 12; refine (eput_no _ _ _ (by first | exact HN4.out | exact .inl rfl)).mono ?_; rintro e w' ⟨rfl, hw'⟩; have hw' := hw'.symm; subst hw')
      | (go_at_call 14; refine (eframes_no _ _ (by first | exact HN4.out | exact .inl rfl)).mono ?_; rintro e w' ⟨rfl, hw'⟩; have hw' := hw'.symm; subst hw')
      | (go_at_call 15; refine (ewaiting_no _ _ (by first | exact HN4.out | exact .inl rfl)).mono ?_; rintro e w' ⟨rfl, hw'⟩; have hw' := hw'.symm; subst hw')
      | (go_at_call 23; refine (ecame_no _ _ (by first | exact HN4.out | exact .inl rfl)).mono ?_; rintro e w' ⟨rfl, hw'⟩; have hw' := hw'.symm; subst hw'))
    go_ret
    exact ⟨rfl, HB4.out⟩
end Go.Proofs.Ytcpkfkcemaihfaa.Oct
