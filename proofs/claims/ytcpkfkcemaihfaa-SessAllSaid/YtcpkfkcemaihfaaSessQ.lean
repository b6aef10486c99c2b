import Derived.Test.YtcpkfkcemaihfaaSessP
/- Equal lists of frames. -/
namespace Go.Proofs.Ytcpkfkcemaihfaa.Oct
open Go.RowKit Go.Proofs.YtcpkfkcemaihfaaW.PrintWords Go.Proofs.Ytcpkfkcemaihfaa.M
set_option linter.unusedVariables false
set_option linter.unusedSimpArgs false
set_option maxHeartbeats 2000000 in
theorem fself_calls (w : World) (f : FR) (A B : Option Addr) (c d n : Nat) (hn : n = f.d.length) (hf : QB w 0 (.slice A n c) f.d) (hg : QB w 0 (.slice B n d) f.d) :
    Calls Try.prog 29 #[.agg #[.int .u32 f.s, .int .i64 f.q, .int .i64 f.k, .slice A n c], .agg #[.int .u32 f.s, .int .i64 f.q, .int .i64 f.k, .slice B n d]] w fun e w' => e = .returned (.bool true) ∧ Below w.heap.size w w' := by
  obtain ⟨S, hS⟩ : ∃ S, S = strOfNums f.d := ⟨_, rfl⟩
  have hb2 : Below w.heap.size w ((w.alloc (.cells #[.int .u32 f.s, .int .i64 f.q, .int .i64 f.k, .slice A n c] 42)).alloc (.cells #[.int .u32 f.s, .int .i64 f.q, .int .i64 f.k, .slice B n d] 42)) := below_alloc (below_alloc (Below.refl _ _) _) _
  have c1 := QB.string (hf.move (fun k e => hb2.block k (hf.block e).2))
  have c2 := QB.string (hg.move (fun k e => hb2.block k (hg.block e).2))
  rw [← hS] at c1 c2
  have HB := Aside0.mk hb2
  clear hS hb2 hf hg hn
  obtain ⟨fs, fq, fk, fd⟩ := f
  dsimp only at c1 c2 HB
  go_enter Try.func29, Try.ntmps29
  go_wp2_with fail
  go_ret
  exact ⟨rfl, HB.out⟩
theorem FM.at {W : World} {base n c : Nat} {A : Option Addr} {ls : List FR} (h : FM W base (.slice A n c) ls) {j : Nat} (hj : j < ls.length) : ∃ ad f Au du, A = some ad ∧ ls[j]? = some f ∧ W.cell? (ad.add (j * 4)) = some (.int .u32 f.s) ∧ W.cell? ⟨(ad.add (j * 4)).block, (ad.add (j * 4)).off + 1, none⟩ = some (.int .i64 f.q) ∧ W.cell? ⟨(ad.add (j * 4)).block, (ad.add (j * 4)).off + 2, none⟩ = some (.int .i64 f.k) ∧ W.cell? ⟨(ad.add (j * 4)).block, (ad.add (j * 4)).off + 3, none⟩ = some (.slice Au f.d.length du) ∧ QB W 0 (.slice Au f.d.length du) f.d := by
  obtain ⟨vs, h1, h2⟩ := h
  have hjf := List.getElem?_eq_getElem hj
  obtain ⟨e1, e2, e3, u, e4, ho⟩ := h2 j _ hjf
  obtain ⟨Au, du, rfl, _⟩ := ho.form
  have hn : n = ls.length := by
    rcases h1.2 with ⟨e, h0⟩ | ⟨g, off, cap, cur, e, _⟩
    · omega
    · injection e
  subst hn
  obtain ⟨ad, ea, k0⟩ := OwnAt.cell h1 e1
  have hc : ∀ i u, vs[4 * j + (i + 1)]? = some u → W.cell? ⟨(ad.add (j * 4)).block, (ad.add (j * 4)).off + (i + 1), none⟩ = some u := fun i u hu => by
    obtain ⟨ad2, e, hc⟩ := OwnAt.cell h1 hu
    rw [ea] at e
    injection e with e
    rw [← e, Nat.mul_comm 4 j, add_lit9] at hc
    exact hc
  rw [Nat.mul_comm] at k0
  exact ⟨ad, ls[j], Au, du, ea, hjf, k0, hc 0 _ e2, hc 1 _ e3, hc 2 _ e4, ho⟩
set_option maxRecDepth 20000 in
set_option maxHeartbeats 8000000 in
theorem sframes_calls (w : World) (ls : List FR) (A B : Option Addr) (c d b1 b2 : Nat) (hA : FM w b1 (.slice A ls.length c) ls) (hB : FM w b2 (.slice B ls.length d) ls) (hl : ls.length ≤ 1000) :
    Calls Try.prog 21 #[.slice A ls.length c, .slice B ls.length d] w fun e w' => e = .returned (.bool true) ∧ Below w.heap.size w w' := by
  have HA := Aside0.mk hA
  have HB := Aside0.mk hB
  obtain ⟨n, hn⟩ : ∃ n, n = ls.length := ⟨_, rfl⟩
  have HN := Aside0.mk hn
  rw [← hn] at hl ⊢
  have hne : ((n : Int) != (n : Int)) = false := bne_self_eq_false _
  have HB0 : Aside0 (Below w.heap.size w w) := ⟨Below.refl _ _⟩
  clear hA hB hn
  go_enter Try.func21, Try.ntmps21
  go_wp2_with fail
  go_loopw [5] (fun v5 wr => ∃ i : Nat, i ≤ n ∧ v5 = .int .i64 i ∧ Aside0 (Below w.heap.size w wr)) (fun v _ => n - (intOf v).toNat)
  case atStart => exact ⟨0, by omega, rfl, HB0⟩
  case round =>
    obtain ⟨i, hi, rfl, HBr⟩ := hrel
    by_cases hlt : i < n
    · have hlt' : (i : Int) < (n : Int) := by omega
      obtain ⟨ad, f, Au, du, rfl, hf, a0, a1, a2, a3, hqa⟩ := HA.out.at (j := i) (by rw [← HN.out]; exact hlt)
      obtain ⟨ae, f', Bu, eu, rfl, hf', e0, e1, e2, e3, hqb⟩ := HB.out.at (j := i) (by rw [← HN.out]; exact hlt)
      rw [hf] at hf'
      injection hf' with hf'
      subst hf'
      obtain ⟨m, hm⟩ : ∃ m, m = f.d.length := ⟨_, rfl⟩
      have HQA := Aside0.mk hqa
      have HQB := Aside0.mk hqb
      have HMM := Aside0.mk hm
      rw [← hm] at a3 e3
      have HS : Aside0 (∀ W, Below w.heap.size w W → W.cell? (ad.add (i * 4)) = some (.int .u32 f.s) ∧ W.cell? ⟨(ad.add (i * 4)).block, (ad.add (i * 4)).off + 1, none⟩ = some (.int .i64 f.q) ∧ W.cell? ⟨(ad.add (i * 4)).block, (ad.add (i * 4)).off + 2, none⟩ = some (.int .i64 f.k) ∧ W.cell? ⟨(ad.add (i * 4)).block, (ad.add (i * 4)).off + 3, none⟩ = some (.slice Au m du) ∧
          W.cell? (ae.add (i * 4)) = some (.int .u32 f.s) ∧ W.cell? ⟨(ae.add (i * 4)).block, (ae.add (i * 4)).off + 1, none⟩ = some (.int .i64 f.q) ∧ W.cell? ⟨(ae.add (i * 4)).block, (ae.add (i * 4)).off + 2, none⟩ = some (.int .i64 f.k) ∧ W.cell? ⟨(ae.add (i * 4)).block, (ae.add (i * 4)).off + 3, none⟩ = some (.slice Bu m eu)) := ⟨fun W hW =>
        ⟨(hW.cell (World.block_lt_of_cell? _ _ a0)).trans a0, (hW.cell (World.block_lt_of_cell? _ _ a1)).trans a1, (hW.cell (World.block_lt_of_cell? _ _ a2)).trans a2, (hW.cell (World.block_lt_of_cell? _ _ a3)).trans a3, (hW.cell (World.block_lt_of_cell? _ _ e0)).trans e0, (hW.cell (World.block_lt_of_cell? _ _ e1)).trans e1, (hW.cell (World.block_lt_of_cell? _ _ e2)).trans e2, (hW.cell (World.block_lt_of_cell? _ _ e3)).trans e3⟩⟩
      have HCS : Aside0 (∀ W, Below w.heap.size w W → Calls Try.prog 29 #[.agg #[.int .u32 f.s, .int .i64 f.q, .int .i64 f.k, .slice Au m du], .agg #[.int .u32 f.s, .int .i64 f.q, .int .i64 f.k, .slice Bu m eu]] W (fun e w' => e = .returned (.bool true) ∧ Below w.heap.size w w')) := ⟨fun W hW => by
        refine (fself_calls W f Au Bu du eu m HMM.out ?_ ?_).mono ?_
        · rw [HMM.out]; exact HQA.out.move (fun k e => hW.block k (HQA.out.block e).2)
        · rw [HMM.out]; exact HQB.out.move (fun k e => hW.block k (HQB.out.block e).2)
        · rintro e w' ⟨rfl, hb⟩
          exact ⟨rfl, hW.trans (hb.mono hW.size)⟩⟩
      have HBD : Aside0 (Below w.heap.size w wr.drew) := ⟨below_drew HBr.out⟩
      clear hf a0 a1 a2 a3 e0 e1 e2 e3 hqa hqb hm
      go_wp2_with fail
      go_region_held_law (fun W => W.cell? (ad.add (i * 4)) = some (.int .u32 f.s) ∧ W.cell? ⟨(ad.add (i * 4)).block, (ad.add (i * 4)).off + 1, none⟩ = some (.int .i64 f.q) ∧ W.cell? ⟨(ad.add (i * 4)).block, (ad.add (i * 4)).off + 2, none⟩ = some (.int .i64 f.k) ∧ W.cell? ⟨(ad.add (i * 4)).block, (ad.add (i * 4)).off + 3, none⟩ = some (.slice Au m du) ∧
          W.cell? (ae.add (i * 4)) = some (.int .u32 f.s) ∧ W.cell? ⟨(ae.add (i * 4)).block, (ae.add (i * 4)).off + 1, none⟩ = some (.int .i64 f.q) ∧ W.cell? ⟨(ae.add (i * 4)).block, (ae.add (i * 4)).off + 2, none⟩ = some (.int .i64 f.k) ∧ W.cell? ⟨(ae.add (i * 4)).block, (ae.add (i * 4)).off + 3, none⟩ = some (.slice Bu m eu)) (exact HS.out _ (Aside0.out (by assumption)))
        (first | (go_at_call 29; refine (HCS.out _ (Aside0.out (by assumption))).mono ?_; rintro e wa ⟨rfl, hba⟩; have HBa := Aside0.mk hba; clear hba))
      all_goals
        go_wp2_with fail
        exact ⟨⟨i + 1, by omega, by go_num, HBa⟩, by simp [intOf]; omega⟩
    · obtain rfl : i = n := by omega
      have hlt' : ¬ (i : Int) < (i : Int) := by omega
      clear hlt
      go_wp2_with fail
      go_ret
      exact ⟨rfl, HBr.out⟩
end Go.Proofs.Ytcpkfkcemaihfaa.Oct
