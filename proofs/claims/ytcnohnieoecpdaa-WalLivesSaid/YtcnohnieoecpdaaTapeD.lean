import Derived.StillTailTactics
import Derived.Test.YtcnohnieoecpdaaTapeC
namespace Go.Proofs.Ytcnohnieoecpdaa.Oct
open Go.RowKit Go.Proofs.YtcnohnieoecpdaaW.PrintWords Go.Proofs.Ytcnohnieoecpdaa.M
set_option linter.unusedVariables false
set_option linter.unusedSimpArgs false
set_option maxHeartbeats 1000000 in
theorem crash_calls (w : World) (p : Nat) (t : TS) (F : Nat → Prop) (k : Int) (h : TapeAt w p t F) (hk : -9223372036854775808 ≤ k ∧ k ≤ 9223372036854775807) :
    Calls Try.prog 27 #[.pointer (some ⟨p, 0, none⟩), .int .i64 k] w (RetT w p F (t.crash k) 0) := by
  have HT := Aside0.mk h
  obtain ⟨B, d, hh, hc, hp, hr, hok⟩ := h
  obtain ⟨c0, c1, c2, f0, f1, f2⟩ := three_cells hh
  have hl1 : t.bs.length ≤ t.room := hok.2.2.1
  have hl2 : t.room ≤ 65536 := hok.2.1
  have hl3 : t.forced ≤ t.bs.length := hok.2.2.2.1
  have HH := Aside0.mk hh
  have HR := Aside0.mk hr
  have HP := Aside0.mk hp
  have HPL := Aside0.mk (Array.getElem?_eq_some_iff.1 HH.out).1
  have HOK := Aside0.mk hok
  clear hh hr hok hp
  have ht1 : IntKind.i64.wrap ((t.bs.length : Int) - (t.forced : Int)) = (t.bs.length : Int) - (t.forced : Int) := IntWalk.i64_in _ (by omega)
  go_enter Try.func27, Try.ntmps27
  go_wp2_with fail
  refine (made_calls _ p t F HT.out).mono ?_
  rintro e w1 ⟨rfl, rfl⟩
  go_wp2_with fail
  go_quiet (fail)
  obtain ⟨j, hj⟩ : ∃ j : Nat, (if (if (t.bs.length : Int) - (t.forced : Int) < k then (t.bs.length : Int) - (t.forced : Int) else k) < 0 then 0 else (if (t.bs.length : Int) - (t.forced : Int) < k then (t.bs.length : Int) - (t.forced : Int) else k)) = (j : Int) := by
    refine ⟨Int.toNat (if (if (t.bs.length : Int) - (t.forced : Int) < k then (t.bs.length : Int) - (t.forced : Int) else k) < 0 then 0 else (if (t.bs.length : Int) - (t.forced : Int) < k then (t.bs.length : Int) - (t.forced : Int) else k)), ?_⟩
    split <;> split <;> omega
  have hleft : t.left k = t.forced + j := by
    unfold TS.left
    split at hj <;> split at hj <;> omega
  have hjl : t.forced + j ≤ t.bs.length := by rw [← hleft]; exact (TS.left_le HOK.out k).2
  rw [hj]
  generalize (if (t.bs.length : Int) - (t.forced : Int) < k then (t.bs.length : Int) - (t.forced : Int) else k) = q
  have HLF := Aside0.mk hleft
  obtain ⟨w2, hw2⟩ : ∃ w2, w2 = w1.drewN nq := ⟨_, rfl⟩
  have HB2 : Aside0 (Below w1.heap.size w1 w2) := ⟨by rw [hw2]; exact below_draws _ _⟩
  have HH2 := Aside0.mk (blk_keep HH.out HB2.out)
  have HR2 := Aside0.mk (HR.out.below HB2.out)
  rw [← hw2]
  clear hw2 c0 c1 c2 f0 f1 f2 HH HR HT ht1 hj hleft hk
  obtain ⟨c0, c1, c2, f0, f1, f2⟩ := three_cells HH2.out
  have e1 : IntKind.i64.wrap ((t.forced : Int) + (j : Int)) = ((t.forced + j : Nat) : Int) := by rw [IntWalk.i64_in _ (by omega)]; omega
  have e2 : wrap64 ((t.forced : Int) + (j : Int)) = ((t.forced + j : Nat) : Int) := by rw [IntWalk.wrap64_in _ (by omega)]; omega
  have e3 : (t.forced : Int) + (j : Int) = ((t.forced + j : Nat) : Int) := by omega
  obtain ⟨n, hn⟩ : ∃ n, n = t.forced + j := ⟨_, rfl⟩
  rw [← hn] at e1 e2 e3 hjl HLF
  have HN := Aside0.mk hn
  clear hn
  have e4 : IntKind.i64.wrap (n : Int) = (n : Int) := IntWalk.i64_in _ (by omega)
  have n0 : (0 : Int) ≤ (n : Int) := by omega
  have n1 : (n : Int) ≤ (d : Int) := by omega
  have n2 : n ≤ d := by omega
  go_wp2
  go_still_tail 20, (by kernel_rfl)
  change wpList _ _ _ _ _ w2.drew
  obtain ⟨w3, hw3⟩ : ∃ w3, w3 = w2.drew := ⟨_, rfl⟩
  have hb3 : Below w2.heap.size w2 w3 := by rw [hw3]; exact below_drew (Below.refl _ _)
  have HB3 := Aside0.mk hb3
  have HH3 := Aside0.mk (blk_keep HH2.out hb3)
  rw [← hw3]
  clear hw3 hb3 c0 c1 c2 f0 f1 f2 e1 e2 e3 e4
  obtain ⟨c0, c1, c2, f0, f1, f2⟩ := three_cells HH3.out
  go_wp2_with fail
  have hm : TapeAt (w3.setCell ⟨p, 1, none⟩ (.slice B n n)) p { t with bs := t.bs.take n } F := by
    refine ⟨B, n, ?_, by show (t.bs.take n).length ≤ n; rw [List.length_take]; omega, HP.out, ?_, ?_⟩
    · show _ = some (Obj.cells #[.int .i64 t.room, .slice B (t.bs.take n).length n, .int .i64 t.forced] _ _)
      rw [List.length_take, Nat.min_eq_left hjl]
      exact heap_set _ HH3.out
    · exact (((HR2.out.take n).below HB3.out).grown (grown_set w3 p 1 _) (fun k hk e => hk.2 (by injection e)))
    · obtain ⟨h1, h2, h3, h4, h5⟩ := HOK.out
      have := HN.out
      exact ⟨h1, h2, by show (t.bs.take n).length ≤ t.room; rw [List.length_take]; omega, by show t.forced ≤ (t.bs.take n).length; rw [List.length_take]; omega, h5.take _⟩
  refine (force_calls _ p _ F hm).mono ?_
  rintro e w4 ⟨rfl, ht4, hg4⟩
  have he : (TS.force { t with bs := t.bs.take n }) = t.crash k := by
    unfold TS.force TS.crash
    rw [HLF.out]
    show TS.mk _ _ _ = TS.mk _ _ _
    rw [List.length_take, Nat.min_eq_left hjl]
  rw [he] at ht4
  have HT4 := Aside0.mk ht4
  have HG4 := Aside0.mk hg4
  clear hm ht4 hg4 he c0 c1 c2 f0 f1 f2
  go_wp2_with fail
  go_ret
  have hb13 : Below w1.heap.size w1 w3 := HB2.out.trans (HB3.out.mono HB2.out.size)
  have hg13 : w1.grownBy (w3.setCell ⟨p, 1, none⟩ (.slice B n n)) (some p) := grown_below hb13 (grown_set _ _ _ _)
  refine ⟨rfl, HT4.out.mono (fun k hk _ => ?_), World.grownBy.trans hg13 HG4.out⟩
  rcases hk with hk | hk
  · exact .inl hk
  · have h1 : w1.heap.size ≤ (w3.setCell ⟨p, 1, none⟩ (.slice B n n)).heap.size := hg13.size
    have h2 : (w3.setCell ⟨p, 1, none⟩ (.slice B n n)).heap.size ≤ k := hk
    exact .inr (by omega)
theorem cut_bad (w : World) (p : Nat) (t : TS) (F : Nat → Prop) (n : Int) (h : TapeAt w p t F) (hn : n < 0 ∨ (t.bs.length : Int) < n) :
    Calls Try.prog 45 #[.pointer (some ⟨p, 0, none⟩), .int .i64 n] w (RetT w p F t 1) := by
  have HT := Aside0.mk h
  obtain ⟨B, d, hh, hc, hp, hr, hok⟩ := h
  obtain ⟨c0, c1, c2, f0, f1, f2⟩ := three_cells hh
  clear hh hr hok
  rcases hn with hn | hn
  all_goals
    go_enter Try.func45, Try.ntmps45
    go_wp2_with fail
    refine (made_calls _ p t F HT.out).mono ?_
    rintro e w1 ⟨rfl, rfl⟩
    go_wp2
    go_ret
    exact ⟨rfl, HT.out.mono (fun k hk _ => .inl hk), World.grownBy.refl _ _⟩
theorem cut_close (w1 : World) (p : Nat) (t : TS) (F : Nat → Prop) (n : Nat) (B : Option Addr) (d f : Nat) (hh : w1.heap[p]? = some (.cells #[.int .i64 t.room, .slice B t.bs.length d, .int .i64 t.forced] 57 (0, 0)))
    (hr : RB w1 (fun k => F k ∧ k ≠ p) B t.bs) (hp : F p) (hok : t.ok) (hn : n ≤ t.bs.length) (hf : f = min t.forced n) :
    RetT w1 p F { t with bs := t.bs.take n, forced := min t.forced n } 0 (.returned (.int .i64 0)) ((w1.setCell ⟨p, 1, none⟩ (.slice B n n)).setCell ⟨p, 2, none⟩ (.int .i64 f)) := by
  subst hf
  refine ⟨rfl, ⟨B, n, ?_, by show (t.bs.take n).length ≤ n; rw [List.length_take]; omega, .inl hp, ?_, ?_⟩, World.grownBy.trans (grown_set _ _ _ _) (grown_set _ _ _ _)⟩
  · show _ = some (Obj.cells #[.int .i64 t.room, .slice B (t.bs.take n).length n, .int .i64 ((min t.forced n : Nat) : Int)] _ _)
    rw [List.length_take, Nat.min_eq_left hn]
    exact heap_set _ (heap_set _ hh)
  · exact (((hr.take n).grown (grown_set w1 p 1 _) (fun k hk e => hk.2 (by injection e))).grown (grown_set _ p 2 _) (fun k hk e => hk.2 (by injection e))).mono (fun k hk _ => ⟨.inl hk.1, hk.2⟩)
  · obtain ⟨h1, h2, h3, h4, h5⟩ := hok
    exact ⟨h1, h2, by show (t.bs.take n).length ≤ t.room; rw [List.length_take]; omega, by show min t.forced n ≤ (t.bs.take n).length; rw [List.length_take]; omega, h5.take _⟩
theorem cut_good (w : World) (p : Nat) (t : TS) (F : Nat → Prop) (n : Nat) (h : TapeAt w p t F) (hn : n ≤ t.bs.length) :
    Calls Try.prog 45 #[.pointer (some ⟨p, 0, none⟩), .int .i64 n] w (RetT w p F { t with bs := t.bs.take n, forced := min t.forced n } 0) := by
  have HT := Aside0.mk h
  obtain ⟨B, d, hh, hc, hp, hr, hok⟩ := h
  obtain ⟨c0, c1, c2, f0, f1, f2⟩ := three_cells hh
  have hl1 : t.bs.length ≤ t.room := hok.2.2.1
  have hl2 : t.room ≤ 65536 := hok.2.1
  have hl3 : t.forced ≤ t.bs.length := hok.2.2.2.1
  have HH := Aside0.mk hh
  have HR := Aside0.mk hr
  have HP := Aside0.mk hp
  have HOK := Aside0.mk hok
  clear hh hr hok hp
  by_cases hlt : (n : Int) < (t.forced : Int)
  all_goals
    go_enter Try.func45, Try.ntmps45
    go_wp2_with fail
    refine (made_calls _ p t F HT.out).mono ?_
    rintro e w1 ⟨rfl, rfl⟩
    go_wp2
    go_ret
    exact cut_close _ p t F n B d _ HH.out HR.out HP.out HOK.out hn (by omega)
theorem cut_calls (w : World) (p : Nat) (t : TS) (F : Nat → Prop) (n : Int) (h : TapeAt w p t F) : Calls Try.prog 45 #[.pointer (some ⟨p, 0, none⟩), .int .i64 n] w (RetT w p F (t.cut n).1 (t.cut n).2) := by
  unfold TS.cut
  split
  · rename_i hn; exact cut_bad w p t F n h hn
  · rename_i hn
    obtain ⟨m, rfl⟩ := Int.eq_ofNat_of_zero_le (show 0 ≤ n by omega)
    rw [Int.toNat_natCast]
    exact cut_good w p t F m h (by omega)
end Go.Proofs.Ytcnohnieoecpdaa.Oct
