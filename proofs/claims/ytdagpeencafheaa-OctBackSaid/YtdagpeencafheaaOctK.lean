import Derived.Test.YtdagpeencafheaaOctJ
namespace Go.Proofs.Ytdagpeencafheaa.Oct
open Go.RowKit Go.Proofs.YtdagpeencafheaaW.PrintWords Go.Proofs.Ytdagpeencafheaa.M
set_option linter.unusedVariables false
set_option linter.unusedSimpArgs false
/-- one step of a region that draws its order: append(v, ys...), ys a literal that was just laid -/
theorem step_lit {ops : Array Oper} {o : Oper} {a : Act} {K : Act → World → Prop} {Q : Exit → Act → World → Prop} {E : Prop} {W0 W : World} (base : Nat) (hgd : o.guard = none) (s x : Operand)
    (ho : o.op = .call { callee := .builtin .append, args := #[s, x], argTypes := #[22, 22] })
    (v : Value) (xs ys : List Int) (b : Nat) (hs : a.eval s = v) (hx : a.eval x = .slice (some ⟨b, 0, none⟩) ys.length ys.length) (HO : OB W base v xs) (hb : W.heap[b]? = some (.cells (nums .u8 ys).toArray 5 (0, 0))) (hpos : 0 < ys.length)
    (HB : Below base W0 W) (hbase : base ≤ W.heap.size) (hl : xs.length + ys.length ≤ 140737488355328)
    (h : ∀ v1 w1, OB w1 base v1 (xs ++ ys) → Below base W0 w1 → W.grownBy w1 v.ownBlock → K (a.put o.dst v1) w1) :
    if Region.wanted o (yielded ops a.tmps) = true then Oper.wp Try.prog o a W K Q else E := by
  obtain ⟨i0, hi0, hz0, hz1, hz2⟩ := info_parts info_u8
  refine step_append_lies W hgd s x 22 ho base 5 i0 (.int .u8 0) 1 1 Try.underlying22 hi0 hz0 hz1 hz2 rfl Nat.zero_lt_one v xs.length (nums .u8 xs) hs HO ⟨b, 0, none⟩ ys.length ys.length (nums .u8 ys) hx (by simp [nums]) ?_ ?_ hpos (by simp only [maxLen]; omega) (by omega) hbase W.heap.size rfl ?_
  · have := World.news_of_block hb
    rwa [List.toList_toArray] at this
  · intro u hu
    obtain ⟨n, _, rfl⟩ := List.mem_map.1 hu
    rfl
  · intro g cap w1 hown hg _ _
    refine h _ w1 ?_ (HB.grown hg hbase (own_base HO)) hg
    unfold OB
    rw [nums_append, List.length_append]
    exact hown

set_option maxHeartbeats 800000 in
theorem rhex_calls (w : World) (A : Option Addr) (c : Nat) (xs : List Int) (hr : Kd.C (Kd.int .u8) w A xs.length xs) (hx : Bytes xs) (hlen : xs.length ≤ 1000000) :
    Calls Try.prog 27 #[.slice A xs.length c] w fun e w' => e = .returned (.string (strOfNums (hexB xs))) ∧ Below w.heap.size w w' := by
  have HR := Aside0.mk hr
  have HX := Aside0.mk hx
  clear hr hx
  go_enter Try.func27, Try.ntmps27
  go_wp2
  go_loopw [4, 5] (fun v4 v5 wr => ∃ (k : Nat), k ≤ xs.length ∧ v5 = .int .i64 k ∧ Aside0 (OB wr w.heap.size v4 (hexB (xs.take k))) ∧ Aside0 (Below w.heap.size w wr)) (fun _ v _ => xs.length - (intOf v).toNat)
  case atStart => exact ⟨0, by omega, rfl, ⟨OB.nil _ _⟩, ⟨Below.refl _ _⟩⟩
  case round =>
    obtain ⟨k, hk, rfl, HO, HB⟩ := hrel
    by_cases hlt : k < xs.length
    · obtain ⟨ad, e, hcell⟩ := C_byte HR.out hlt
      cases e
      have lad := World.block_lt_of_cell? w _ hcell
      replace hcell := pw_cell_below HB.out hcell
      have hfar : ∀ (W w1 : World), W.grownBy w1 u4.ownBlock → wr.heap.size ≤ W.heap.size → w1.cell? (ad.add k) = W.cell? (ad.add k) := fun W w1 hg hs => by
        refine hg.cell_far _ (by have := HB.out.size; omega) (fun h => ?_)
        have := own_base HO.out _ h.symm
        omega
      have HF := Aside0.mk hfar
      obtain ⟨x, hx⟩ : ∃ x, x = xs.getD k 0 := ⟨_, rfl⟩
      have hb := HX.out.getD k
      rw [← hx] at hb hcell
      have HX' := Aside0.mk hx
      clear hx lad hfar
      obtain ⟨hb0, hb1⟩ := hb
      have h1 : x / 16 < 16 := by omega
      have h2 : 0 ≤ x / 16 := by omega
      have h3 : x % 16 < 16 := by omega
      have h4 : 0 ≤ x % 16 := by omega
      have hd1 := hex_at (x / 16) h2 h1
      have hd2 := hex_at (x % 16) h4 h3
      have hln : (hexB (xs.take k)).length ≤ 2000000 := by rw [hexB_length, List.length_take]; omega
      have q1 : x.tdiv 16 = x / 16 := Int.tdiv_eq_ediv_of_nonneg hb0
      have q2 : x.tmod 16 = x % 16 := Int.tmod_eq_emod_of_nonneg hb0
      have q3 : IntKind.i64.wrap x = x := IntWalk.i64_in _ (by omega)
      have q4 : IntKind.i64.wrap (x / 16) = x / 16 := IntWalk.i64_in _ (by omega)
      have q5 : wrap64 x = x := IntWalk.wrap64_in _ (by omega)
      have q6 : wrap64 (x / 16) = x / 16 := IntWalk.wrap64_in _ (by omega)
      have k0 : (0 : Int) ≤ (k : Int) := by omega
      have k1 : (k : Int) < (xs.length : Int) := by omega
      go_wp2_with fail
      go_region_held3 (fun w' => w'.cell? (ad.add k) = some (.int .u8 x)) (first | go_keep | (rw [HF.out _ _ hgr1 (by simp)]; simp [World.cell?_alloc_some, hcell]))
        ((refine step_lit (W0 := w) w.heap.size rfl (.tmp 12) (.tmp 29) rfl u4 (hexB (xs.take k)) [hexD (x / 16), hexD (x % 16)] wr.heap.size rfl rfl ?a4 ?a7 ?a8 ?a9 ?a12 ?a11 ?_; (case a4 => exact ((HO.out.alloc _).drew)); (case a7 => exact heap_alloc_new wr _); (case a8 => simp); (case a9 => exact below_drew (below_alloc HB.out _)); (case a11 => simp; omega); (case a12 => simp; have := HB.out.size; omega); intro v1 w1 ho1 hb1 hgr1))
      all_goals
        have HO1 : Aside0 (OB w1 w.heap.size v1 (hexB (xs.take (k + 1)))) := ⟨by rw [hexB_take xs k hlt, ← HX'.out]; exact ho1⟩
        have HB1 := Aside0.mk hb1
        clear ho1 hb1 hgr1
        go_wp2
        go_roundw
        case rel => exact ⟨k + 1, by omega, by go_num, HO1, HB1⟩
        case measure => simp [intOf]; omega
    · obtain rfl : k = xs.length := by omega
      have hs := own_string Try.underlying22 Try.underlying5 Try.underlying9 HO.out
      rw [List.take_length] at hs
      go_wp2
      go_ret
      exact ⟨rfl, HB.out⟩
end Go.Proofs.Ytdagpeencafheaa.Oct
