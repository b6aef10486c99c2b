import Derived.StillTailTactics
import Derived.Laws.CopyOwn
import Derived.Test.YtobljkhidgbeoaaZ40
namespace Go.Proofs.Ytobljkhidgbeoaa.Oct
open Go.RowKit Go.Proofs.YtobljkhidgbeoaaW.PrintWords Go.Proofs.Ytobljkhidgbeoaa.M
set_option linter.unusedVariables false
set_option linter.unusedSimpArgs false
theorem new_bad (w : World) (n : Int) (h : n < 1 ∨ 65536 < n) : Calls Try.prog 4 #[.int .i64 n] w fun e w' => e = .returned (.tuple #[.pointer none, .int .i64 1]) ∧ w' = w := by
  rcases h with h | h
  all_goals
    go_enter Try.func4, Try.ntmps4
    go_wp2
    go_ret2
    exact ⟨rfl, rfl⟩
theorem new_good (w : World) (n : Nat) (h1 : 1 ≤ n) (h2 : n ≤ 65536) : Calls Try.prog 4 #[.int .i64 n] w fun e w' => e = .returned (.tuple #[.pointer (some ⟨w.heap.size, 0, none⟩), .int .i64 0]) ∧ TapeAt w' w.heap.size ⟨n, [], 0⟩ (fun k => w.heap.size ≤ k) ∧ Below w.heap.size w w' := by
  go_enter Try.func4, Try.ntmps4
  go_wp2
  go_ret2
  refine ⟨rfl, ⟨none, 0, heap_alloc_new w _, Nat.le_refl _, Nat.le_refl _, RB.nil _ _, h1, h2, Nat.zero_le _, Nat.le_refl _, Bytes.nil⟩, below_alloc (Below.refl _ _) _⟩
theorem append_full (w : World) (p : Nat) (t : TS) (F : Nat → Prop) (A : Option Addr) (c : Nat) (ys : List Int) (h : TapeAt w p t F) (hy : Kd.C (Kd.int .u8) w A ys.length ys) (hn : t.room - t.bs.length < ys.length) :
    Calls Try.prog 37 #[.pointer (some ⟨p, 0, none⟩), .slice A ys.length c] w (RetT w p F t 5) := by
  have HT := Aside0.mk h
  have hlen : ys.length ≤ 9223372036854775807 := hy.2.1
  obtain ⟨B, d, hh, hc, hp, hr, hok⟩ := h
  obtain ⟨c0, c1, c2, f0, f1, f2⟩ := three_cells hh
  have hl1 : t.bs.length ≤ t.room := hok.2.2.1
  have hl2 : t.room ≤ 65536 := hok.2.1
  clear hh hr hok
  have ht1 : IntKind.i64.wrap ((t.room : Int) - (t.bs.length : Int)) = (t.room : Int) - (t.bs.length : Int) := IntWalk.i64_in _ (by omega)
  have ht2 : (t.room : Int) - (t.bs.length : Int) < (ys.length : Int) := by omega
  go_enter Try.func37, Try.ntmps37
  go_wp2_with fail
  refine (made_calls _ p t F HT.out).mono ?_
  rintro e w1 ⟨rfl, rfl⟩
  go_wp2_with fail
  go_quiet (fail)
  go_wp2
  go_ret
  exact ⟨rfl, (HT.out.mono (fun k hk _ => .inl hk)).below (below_draws _ _), grown_of_below (below_draws _ _) _⟩
theorem append_close (w1 w2 w3 : World) (p : Nat) (t : TS) (F : Nat → Prop) (ys : List Int) (A1 B : Option Addr) (c3 d : Nat) (hb2 : Below w1.heap.size w1 w2) (hb3 : Below w2.heap.size w2 w3)
    (hh : w3.heap[p]? = some (.cells #[.int .i64 t.room, .slice B t.bs.length d, .int .i64 t.forced] 62 (0, 0))) (hc : t.bs.length + ys.length ≤ c3) (hr : RB w3 (New w2.drew (fun k => F k ∧ k ≠ p)) A1 (t.bs ++ ys)) (hp : F p) (hpl : p < w1.heap.size)
    (hok : TS.ok { t with bs := t.bs ++ ys }) :
    RetT w1 p F { t with bs := t.bs ++ ys } 0 (.returned (.int .i64 0)) (w3.setCell ⟨p, 1, none⟩ (.slice A1 (t.bs.length + ys.length) c3)) := by
  have hs2 : w1.heap.size ≤ w2.heap.size := hb2.size
  refine ⟨rfl, ⟨A1, c3, ?_, by show (t.bs ++ ys).length ≤ c3; rw [List.length_append]; exact hc, .inl hp, ?_, hok⟩, grown_below (hb2.trans (hb3.mono hs2)) (grown_set _ _ _ _)⟩
  · show _ = some (Obj.cells #[.int .i64 t.room, .slice A1 (t.bs ++ ys).length c3, .int .i64 t.forced] _ _)
    rw [List.length_append]
    exact heap_set _ hh
  · refine (RB.grown hr (grown_set w3 p 1 _) (fun k hk e => ?_)).mono (fun k hk _ => ?_)
    · injection e with e
      subst e
      rcases hk with hk | hk
      · exact hk.2 rfl
      · have : w2.heap.size ≤ k := hk
        omega
    · rcases hk with hk | hk
      · exact ⟨.inl hk.1, hk.2⟩
      · have : w2.heap.size ≤ k := hk
        exact ⟨.inr (by omega), by omega⟩
set_option maxHeartbeats 4000000 in
theorem append_room (w : World) (p : Nat) (t : TS) (F : Nat → Prop) (A : Option Addr) (c : Nat) (ys : List Int) (h : TapeAt w p t F) (hy : Kd.C (Kd.int .u8) w A ys.length ys) (hb : Bytes ys) (hn : ¬ t.room - t.bs.length < ys.length) :
    Calls Try.prog 37 #[.pointer (some ⟨p, 0, none⟩), .slice A ys.length c] w (RetT w p F { t with bs := t.bs ++ ys } 0) := by
  have HT := Aside0.mk h
  have HOK2 : Aside0 (TS.ok { t with bs := t.bs ++ ys }) := ⟨by
    obtain ⟨_, _, _, _, _, _, hok⟩ := h
    have := TS.append_ok hok hb
    unfold TS.append at this
    rw [if_neg hn] at this
    exact this⟩
  have HY := Aside0.mk hy
  have hlen : ys.length ≤ 9223372036854775807 := hy.2.1
  obtain ⟨B, d, hh, hc, hp, hr, hok⟩ := h
  obtain ⟨c0, c1, c2, f0, f1, f2⟩ := three_cells hh
  have hl1 : t.bs.length ≤ t.room := hok.2.2.1
  have hl2 : t.room ≤ 65536 := hok.2.1
  have HH := Aside0.mk hh
  have HR := Aside0.mk hr
  have HP := Aside0.mk hp
  have HPL := Aside0.mk (Array.getElem?_eq_some_iff.1 HH.out).1
  clear hh hr hok hy hp hb
  have ht1 : IntKind.i64.wrap ((t.room : Int) - (t.bs.length : Int)) = (t.room : Int) - (t.bs.length : Int) := IntWalk.i64_in _ (by omega)
  have ht2 : ¬ (t.room : Int) - (t.bs.length : Int) < (ys.length : Int) := by omega
  go_enter Try.func37, Try.ntmps37
  go_wp2_with fail
  refine (made_calls _ p t F HT.out).mono ?_
  rintro e w1 ⟨rfl, rfl⟩
  go_wp2_with fail
  go_quiet (fail)
  go_wp2
  obtain ⟨w2, hw2⟩ : ∃ w2, w2 = w1.drewN nq := ⟨_, rfl⟩
  have HB2 : Aside0 (Below w1.heap.size w1 w2) := ⟨by rw [hw2]; exact below_draws _ _⟩
  have HH2 := Aside0.mk (blk_keep HH.out HB2.out)
  have HR2 := Aside0.mk (HR.out.below HB2.out)
  have HY2 := Aside0.mk (Kd.C_below HY.out HB2.out)
  rw [← hw2]
  clear hw2 c0 c1 c2 f0 f1 f2 HH HR HY HT ht1
  obtain ⟨c0, c1, c2, f0, f1, f2⟩ := three_cells HH2.out
  have k0 : (0 : Int) ≤ (t.bs.length : Int) := by omega
  have k1 : (t.bs.length : Int) ≤ (d : Int) := by omega
  go_region_law (refine step_app_full rfl (.tmp 36) (.tmp 37) rfl (fun k => F k ∧ k ≠ p) B A t.bs.length ys.length c t.bs ys rfl rfl rfl rfl ?aR ?aY ?aL ?_; (case aR => exact HR2.out.below (below_drew (Below.refl _ _))); (case aY => exact Kd.C_below HY2.out (below_drew (Below.refl _ _))); (case aL => omega); intro A1 c3 w3 hc3 hr3 hb3'; have hb3 : Below w2.heap.size w2 w3 := (below_drew (Below.refl _ _)).trans hb3'; have hh3 := blk_keep HH2.out hb3; obtain ⟨d0, d1, d2, g0, g1, g2⟩ := three_cells hh3; have HH3 := Aside0.mk hh3; have HB3 := Aside0.mk hb3; have HR3 := Aside0.mk hr3; have HC3 := Aside0.mk hc3; clear hh3 hb3 hb3' hr3 hc3)
  all_goals
    go_wp2
    go_ret
    exact append_close w1 w2 w3 p t F ys A1 B c3 d HB2.out HB3.out HH3.out HC3.out HR3.out HP.out HPL.out HOK2.out
theorem append_calls (w : World) (p : Nat) (t : TS) (F : Nat → Prop) (A : Option Addr) (c : Nat) (ys : List Int) (h : TapeAt w p t F) (hy : Kd.C (Kd.int .u8) w A ys.length ys) (hb : Bytes ys) :
    Calls Try.prog 37 #[.pointer (some ⟨p, 0, none⟩), .slice A ys.length c] w (RetT w p F (t.append ys).1 (t.append ys).2) := by
  unfold TS.append
  split
  · rename_i hn; exact append_full w p t F A c ys h hy hn
  · rename_i hn; exact append_room w p t F A c ys h hy hb hn
end Go.Proofs.Ytobljkhidgbeoaa.Oct
namespace Go.Proofs.Ytobljkhidgbeoaa.Oct
open Go.RowKit Go.Proofs.YtobljkhidgbeoaaW.PrintWords Go.Proofs.Ytobljkhidgbeoaa.M
set_option linter.unusedVariables false
set_option linter.unusedSimpArgs false
set_option maxRecDepth 20000 in
set_option maxHeartbeats 1000000 in
theorem crash_calls (w : World) (p : Nat) (t : TS) (F : Nat → Prop) (k : Int) (h : TapeAt w p t F) (hk : -9223372036854775808 ≤ k ∧ k ≤ 9223372036854775807) :
    Calls Try.prog 13 #[.pointer (some ⟨p, 0, none⟩), .int .i64 k] w (RetT w p F (t.crash k) 0) := by
  have HT := Aside0.mk h
  obtain ⟨B, d, hh, hc, hp, hr, hok⟩ := h
  obtain ⟨c0, c1, c2, f0, f1, f2⟩ := three_cells hh
  have hl1 : t.bs.length ≤ t.room := hok.2.2.1
  have hl2 : t.room ≤ 65536 := hok.2.1
  have hl3 : t.forced ≤ t.bs.length := hok.2.2.2.1
  have HH := Aside0.mk hh
  have HR := Aside0.mk hr
  have HP := Aside0.mk hp
  have HPL := Aside0.mk (Array.getElem?_eq_some_iff.1 HH.out).1
  have HOK := Aside0.mk hok
  clear hh hr hok hp
  have ht1 : IntKind.i64.wrap ((t.bs.length : Int) - (t.forced : Int)) = (t.bs.length : Int) - (t.forced : Int) := IntWalk.i64_in _ (by omega)
  go_enter Try.func13, Try.ntmps13
  go_wp2_with fail
  refine (made_calls _ p t F HT.out).mono ?_
  rintro e w1 ⟨rfl, rfl⟩
  go_wp2_with fail
  go_quiet (fail)
  obtain ⟨j, hj⟩ : ∃ j : Nat, (if (if (t.bs.length : Int) - (t.forced : Int) < k then (t.bs.length : Int) - (t.forced : Int) else k) < 0 then 0 else (if (t.bs.length : Int) - (t.forced : Int) < k then (t.bs.length : Int) - (t.forced : Int) else k)) = (j : Int) := by
    refine ⟨Int.toNat (if (if (t.bs.length : Int) - (t.forced : Int) < k then (t.bs.length : Int) - (t.forced : Int) else k) < 0 then 0 else (if (t.bs.length : Int) - (t.forced : Int) < k then (t.bs.length : Int) - (t.forced : Int) else k)), ?_⟩
    split <;> split <;> omega
  have hleft : t.left k = t.forced + j := by
    unfold TS.left
    split at hj <;> split at hj <;> omega
  have hjl : t.forced + j ≤ t.bs.length := by rw [← hleft]; exact (TS.left_le HOK.out k).2
  rw [hj]
  generalize (if (t.bs.length : Int) - (t.forced : Int) < k then (t.bs.length : Int) - (t.forced : Int) else k) = q
  have HLF := Aside0.mk hleft
  obtain ⟨w2, hw2⟩ : ∃ w2, w2 = w1.drewN nq := ⟨_, rfl⟩
  have HB2 : Aside0 (Below w1.heap.size w1 w2) := ⟨by rw [hw2]; exact below_draws _ _⟩
  have HH2 := Aside0.mk (blk_keep HH.out HB2.out)
  have HR2 := Aside0.mk (HR.out.below HB2.out)
  rw [← hw2]
  clear hw2 c0 c1 c2 f0 f1 f2 HH HR HT ht1 hj hleft hk
  obtain ⟨c0, c1, c2, f0, f1, f2⟩ := three_cells HH2.out
  have e1 : IntKind.i64.wrap ((t.forced : Int) + (j : Int)) = ((t.forced + j : Nat) : Int) := by rw [IntWalk.i64_in _ (by omega)]; omega
  have e2 : wrap64 ((t.forced : Int) + (j : Int)) = ((t.forced + j : Nat) : Int) := by rw [IntWalk.wrap64_in _ (by omega)]; omega
  have e3 : (t.forced : Int) + (j : Int) = ((t.forced + j : Nat) : Int) := by omega
  obtain ⟨n, hn⟩ : ∃ n, n = t.forced + j := ⟨_, rfl⟩
  rw [← hn] at e1 e2 e3 hjl HLF
  have HN := Aside0.mk hn
  clear hn
  have e4 : IntKind.i64.wrap (n : Int) = (n : Int) := IntWalk.i64_in _ (by omega)
  have n0 : (0 : Int) ≤ (n : Int) := by omega
  have n1 : (n : Int) ≤ (d : Int) := by omega
  have n2 : n ≤ d := by omega
  go_wp2
  go_still_tail 20, (by kernel_rfl)
  change wpList _ _ _ _ _ w2.drew
  obtain ⟨w3, hw3⟩ : ∃ w3, w3 = w2.drew := ⟨_, rfl⟩
  have hb3 : Below w2.heap.size w2 w3 := by rw [hw3]; exact below_drew (Below.refl _ _)
  have HB3 := Aside0.mk hb3
  have HH3 := Aside0.mk (blk_keep HH2.out hb3)
  rw [← hw3]
  clear hw3 hb3 c0 c1 c2 f0 f1 f2 e1 e2 e3 e4
  obtain ⟨c0, c1, c2, f0, f1, f2⟩ := three_cells HH3.out
  go_wp2_with fail
  have hm : TapeAt (w3.setCell ⟨p, 1, none⟩ (.slice B n n)) p { t with bs := t.bs.take n } F := by
    refine ⟨B, n, ?_, by show (t.bs.take n).length ≤ n; rw [List.length_take]; omega, HP.out, ?_, ?_⟩
    · show _ = some (Obj.cells #[.int .i64 t.room, .slice B (t.bs.take n).length n, .int .i64 t.forced] _ _)
      rw [List.length_take, Nat.min_eq_left hjl]
      exact heap_set _ HH3.out
    · exact (((HR2.out.take n).below HB3.out).grown (grown_set w3 p 1 _) (fun k hk e => hk.2 (by injection e)))
    · obtain ⟨h1, h2, h3, h4, h5⟩ := HOK.out
      have := HN.out
      exact ⟨h1, h2, by show (t.bs.take n).length ≤ t.room; rw [List.length_take]; omega, by show t.forced ≤ (t.bs.take n).length; rw [List.length_take]; omega, h5.take _⟩
  refine (force_calls _ p _ F hm).mono ?_
  rintro e w4 ⟨rfl, ht4, hg4⟩
  have he : (TS.force { t with bs := t.bs.take n }) = t.crash k := by
    unfold TS.force TS.crash
    rw [HLF.out]
    show TS.mk _ _ _ = TS.mk _ _ _
    rw [List.length_take, Nat.min_eq_left hjl]
  rw [he] at ht4
  have HT4 := Aside0.mk ht4
  have HG4 := Aside0.mk hg4
  clear hm ht4 hg4 he c0 c1 c2 f0 f1 f2
  go_wp2_with fail
  go_ret
  have hb13 : Below w1.heap.size w1 w3 := HB2.out.trans (HB3.out.mono HB2.out.size)
  have hg13 : w1.grownBy (w3.setCell ⟨p, 1, none⟩ (.slice B n n)) (some p) := grown_below hb13 (grown_set _ _ _ _)
  refine ⟨rfl, HT4.out.mono (fun k hk _ => ?_), World.grownBy.trans hg13 HG4.out⟩
  rcases hk with hk | hk
  · exact .inl hk
  · have h1 : w1.heap.size ≤ (w3.setCell ⟨p, 1, none⟩ (.slice B n n)).heap.size := hg13.size
    have h2 : (w3.setCell ⟨p, 1, none⟩ (.slice B n n)).heap.size ≤ k := hk
    exact .inr (by omega)
theorem cut_bad (w : World) (p : Nat) (t : TS) (F : Nat → Prop) (n : Int) (h : TapeAt w p t F) (hn : n < 0 ∨ (t.bs.length : Int) < n) :
    Calls Try.prog 22 #[.pointer (some ⟨p, 0, none⟩), .int .i64 n] w (RetT w p F t 1) := by
  have HT := Aside0.mk h
  obtain ⟨B, d, hh, hc, hp, hr, hok⟩ := h
  obtain ⟨c0, c1, c2, f0, f1, f2⟩ := three_cells hh
  clear hh hr hok
  rcases hn with hn | hn
  all_goals
    go_enter Try.func22, Try.ntmps22
    go_wp2_with fail
    refine (made_calls _ p t F HT.out).mono ?_
    rintro e w1 ⟨rfl, rfl⟩
    go_wp2
    go_ret
    exact ⟨rfl, HT.out.mono (fun k hk _ => .inl hk), World.grownBy.refl _ _⟩
theorem cut_close (w1 : World) (p : Nat) (t : TS) (F : Nat → Prop) (n : Nat) (B : Option Addr) (d f : Nat) (hh : w1.heap[p]? = some (.cells #[.int .i64 t.room, .slice B t.bs.length d, .int .i64 t.forced] 62 (0, 0)))
    (hr : RB w1 (fun k => F k ∧ k ≠ p) B t.bs) (hp : F p) (hok : t.ok) (hn : n ≤ t.bs.length) (hf : f = min t.forced n) :
    RetT w1 p F { t with bs := t.bs.take n, forced := min t.forced n } 0 (.returned (.int .i64 0)) ((w1.setCell ⟨p, 1, none⟩ (.slice B n n)).setCell ⟨p, 2, none⟩ (.int .i64 f)) := by
  subst hf
  refine ⟨rfl, ⟨B, n, ?_, by show (t.bs.take n).length ≤ n; rw [List.length_take]; omega, .inl hp, ?_, ?_⟩, World.grownBy.trans (grown_set _ _ _ _) (grown_set _ _ _ _)⟩
  · show _ = some (Obj.cells #[.int .i64 t.room, .slice B (t.bs.take n).length n, .int .i64 ((min t.forced n : Nat) : Int)] _ _)
    rw [List.length_take, Nat.min_eq_left hn]
    exact heap_set _ (heap_set _ hh)
  · exact (((hr.take n).grown (grown_set w1 p 1 _) (fun k hk e => hk.2 (by injection e))).grown (grown_set _ p 2 _) (fun k hk e => hk.2 (by injection e))).mono (fun k hk _ => ⟨.inl hk.1, hk.2⟩)
  · obtain ⟨h1, h2, h3, h4, h5⟩ := hok
    exact ⟨h1, h2, by show (t.bs.take n).length ≤ t.room; rw [List.length_take]; omega, by show min t.forced n ≤ (t.bs.take n).length; rw [List.length_take]; omega, h5.take _⟩
theorem cut_good (w : World) (p : Nat) (t : TS) (F : Nat → Prop) (n : Nat) (h : TapeAt w p t F) (hn : n ≤ t.bs.length) :
    Calls Try.prog 22 #[.pointer (some ⟨p, 0, none⟩), .int .i64 n] w (RetT w p F { t with bs := t.bs.take n, forced := min t.forced n } 0) := by
  have HT := Aside0.mk h
  obtain ⟨B, d, hh, hc, hp, hr, hok⟩ := h
  obtain ⟨c0, c1, c2, f0, f1, f2⟩ := three_cells hh
  have hl1 : t.bs.length ≤ t.room := hok.2.2.1
  have hl2 : t.room ≤ 65536 := hok.2.1
  have hl3 : t.forced ≤ t.bs.length := hok.2.2.2.1
  have HH := Aside0.mk hh
  have HR := Aside0.mk hr
  have HP := Aside0.mk hp
  have HOK := Aside0.mk hok
  clear hh hr hok hp
  by_cases hlt : (n : Int) < (t.forced : Int)
  all_goals
    go_enter Try.func22, Try.ntmps22
    go_wp2_with fail
    refine (made_calls _ p t F HT.out).mono ?_
    rintro e w1 ⟨rfl, rfl⟩
    go_wp2
    go_ret
    exact cut_close _ p t F n B d _ HH.out HR.out HP.out HOK.out hn (by omega)
theorem cut_calls (w : World) (p : Nat) (t : TS) (F : Nat → Prop) (n : Int) (h : TapeAt w p t F) : Calls Try.prog 22 #[.pointer (some ⟨p, 0, none⟩), .int .i64 n] w (RetT w p F (t.cut n).1 (t.cut n).2) := by
  unfold TS.cut
  split
  · rename_i hn; exact cut_bad w p t F n h hn
  · rename_i hn
    obtain ⟨m, rfl⟩ := Int.eq_ofNat_of_zero_le (show 0 ≤ n by omega)
    rw [Int.toNat_natCast]
    exact cut_good w p t F m h (by omega)
end Go.Proofs.Ytobljkhidgbeoaa.Oct
namespace Go.Proofs.Ytobljkhidgbeoaa.Oct
open Go.RowKit Go.Proofs.YtobljkhidgbeoaaW.PrintWords Go.Proofs.Ytobljkhidgbeoaa.M
set_option linter.unusedVariables false
set_option linter.unusedSimpArgs false
theorem made_raw (w : World) (p r : Nat) (x y : Value) (T : TypeId) (hh : w.heap[p]? = some (.cells #[.int .i64 r, x, y] T (0, 0))) (hr : 0 < r) : Calls Try.prog 38 #[.pointer (some ⟨p, 0, none⟩)] w fun e w' => e = .returned (.bool true) ∧ w' = w := by
  obtain ⟨c0, _, _, _, _, _⟩ := three_cells hh
  have hroom : decide (0 < r) = true := by simp; omega
  go_enter Try.func38, Try.ntmps38
  go_wp2
  go_ret
  exact ⟨rfl, rfl⟩
theorem force_raw (w : World) (p r n c : Nat) (A : Option Addr) (y : Int) (T : TypeId) (hh : w.heap[p]? = some (.cells #[.int .i64 r, .slice A n c, .int .i64 y] T (0, 0))) (hr : 0 < r) : Calls Try.prog 23 #[.pointer (some ⟨p, 0, none⟩)] w fun e w' => e = .returned (.int .i64 0) ∧ w' = w.setCell ⟨p, 2, none⟩ (.int .i64 n) := by
  obtain ⟨c0, c1, c2, f0, f1, f2⟩ := three_cells hh
  have HH := Aside0.mk hh
  clear hh
  go_enter Try.func23, Try.ntmps23
  go_wp2_with fail
  refine (made_raw _ p r _ _ T HH.out hr).mono ?_
  rintro e w1 ⟨rfl, rfl⟩
  go_wp2
  go_ret
  exact ⟨rfl, rfl⟩
theorem splice_all (m : Nat) (ys : List Int) (h : ys.length = m) : splice (nums .u8 (List.replicate m 0)) 0 (nums .u8 ys) = nums .u8 ys := by
  unfold splice
  simp [nums, h]
theorem cells_of_ints {W : World} {ad : Addr} {m : Nat} {ys : List Int} (hc : ∀ j, j < m → W.cell? (ad.add j) = some (.int .u8 (ys.getD j 0))) (hm : m = ys.length) : ∀ j v, (nums .u8 ys)[j]? = some v → W.cell? (ad.add j) = some v := by
  intro j v hv
  have hj : j < ys.length := by
    have := (List.getElem?_eq_some_iff.1 hv).1
    simpa [nums] using this
  rw [hc j (by omega)]
  simpa [nums, List.getElem?_eq_getElem hj, List.getD_eq_getElem?_getD] using hv
theorem t_nums_one (ys : List Int) : ∀ v ∈ nums .u8 ys, v.oneCell' = true := fun v hv => by
  obtain ⟨q, _, rfl⟩ := List.mem_map.1 hv
  rfl
end Go.Proofs.Ytobljkhidgbeoaa.Oct
/- WalWrites. -/
namespace Go.Proofs.Ytobljkhidgbeoaa.Oct
open Go.RowKit Go.Proofs.YtobljkhidgbeoaaW.PrintWords Go.Proofs.Ytobljkhidgbeoaa.M
set_option linter.unusedVariables false
set_option linter.unusedSimpArgs false
/-- bytes of one's own above a mark, and one of them stored -/
theorem own_put {W : World} {top m c : Nat} {A : Option Addr} (h : ∃ zs : List Int, zs.length = m ∧ Bytes zs ∧ OB W top (.slice A m c) zs) {k : Nat} (hk : k < m) :
    ∃ g z, A = some ⟨g, 0, none⟩ ∧ top ≤ g ∧ 0 ≤ z ∧ z < 256 ∧ W.cell? ⟨g, k, none⟩ = some (.int .u8 z) ∧ W.frozen? ⟨g, k, none⟩ = false ∧ ∀ x, Byte x → ∃ zs : List Int, zs.length = m ∧ Bytes zs ∧ OB (W.setCell ⟨g, k, none⟩ (.int .u8 x)) top (.slice A m c) zs := by
  obtain ⟨zs, hl, hb, ho⟩ := h
  have ho' : W.ownsRow top 5 1 (.slice A m c) m (nums .u8 zs) := by unfold OB at ho; rwa [hl] at ho
  rcases ho'.2 with ⟨_, h0⟩ | ⟨g, cap, cur, hv, hg, _⟩
  · omega
  injection hv with hA _ hcap
  subst hA
  obtain ⟨hc, hf⟩ := own_at ho' (k : Int) (by omega) (by omega)
  rw [Int.toNat_natCast] at hc hf
  obtain ⟨A', c', e, hr⟩ := ho.reads
  injection e with e1 e2 e3
  obtain ⟨ad, e, hz⟩ := C_byte hr (k := k) (by omega)
  rw [← e1] at e
  injection e with e
  subst e
  rw [Addr.add_lit, Nat.zero_add] at hz
  refine ⟨g, zs.getD k 0, rfl, hg, (hb.getD k).1, (hb.getD k).2, hz, hf, fun x hx => ⟨zs.set k x, by simp [hl], fun y hy => ?_, ?_⟩⟩
  · rcases List.mem_or_eq_of_mem_set hy with h | h
    · exact hb y h
    · rw [h]; exact hx
  · have hp := own_store ho' (k : Int) x
    rw [Int.toNat_natCast] at hp
    have := hp.1
    unfold OB
    rw [List.length_set, hl]
    exact this
theorem xor_ff {z : Int} (h0 : 0 ≤ z) (h : z < 256) : ∃ y, Go.bits .xor .u8 z 255 = y ∧ Byte y := by
  refine ⟨_, u8_xor h0 h (by decide) (by decide), by omega, ?_⟩
  have := xor_byte (a := z.toNat) (b := (255 : Int).toNat) (by omega) (by decide)
  omega
theorem readL_bytes {b : List Int} (hb : Bytes b) : ∀ at_, ∀ r ∈ (readL at_ b).map (·.2), Bytes r.2 := by
  induction hm : b.length using Nat.strongRecOn generalizing b with
  | _ m ih =>
    intro at_ r hr
    by_cases h : isR b
    · have h4 := h.2.2.2.1
      rw [readL_yes h, List.map_cons] at hr
      rcases List.mem_cons.1 hr with rfl | hr
      · exact (isR_back hb h).2.2.1
      · exact ih (b.drop (7 + lenR b)).length (by rw [List.length_drop]; omega) (hb.drop _) rfl _ r hr
    · rw [readL_no h] at hr; cases hr
end Go.Proofs.Ytobljkhidgbeoaa.Oct
