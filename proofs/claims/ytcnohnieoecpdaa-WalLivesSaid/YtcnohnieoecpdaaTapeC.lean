import Derived.Test.YtcnohnieoecpdaaTapeB
namespace Go.Proofs.Ytcnohnieoecpdaa.Oct
open Go.RowKit Go.Proofs.YtcnohnieoecpdaaW.PrintWords Go.Proofs.Ytcnohnieoecpdaa.M
set_option linter.unusedVariables false
set_option linter.unusedSimpArgs false
theorem new_bad (w : World) (n : Int) (h : n < 1 ∨ 65536 < n) : Calls Try.prog 19 #[.int .i64 n] w fun e w' => e = .returned (.tuple #[.pointer none, .int .i64 1]) ∧ w' = w := by
  rcases h with h | h
  all_goals
    go_enter Try.func19, Try.ntmps19
    go_wp2
    go_ret2
    exact ⟨rfl, rfl⟩
theorem new_good (w : World) (n : Nat) (h1 : 1 ≤ n) (h2 : n ≤ 65536) : Calls Try.prog 19 #[.int .i64 n] w fun e w' => e = .returned (.tuple #[.pointer (some ⟨w.heap.size, 0, none⟩), .int .i64 0]) ∧ TapeAt w' w.heap.size ⟨n, [], 0⟩ (fun k => w.heap.size ≤ k) ∧ Below w.heap.size w w' := by
  go_enter Try.func19, Try.ntmps19
  go_wp2
  go_ret2
  refine ⟨rfl, ⟨none, 0, heap_alloc_new w _, Nat.le_refl _, Nat.le_refl _, RB.nil _ _, h1, h2, Nat.zero_le _, Nat.le_refl _, Bytes.nil⟩, below_alloc (Below.refl _ _) _⟩
theorem append_full (w : World) (p : Nat) (t : TS) (F : Nat → Prop) (A : Option Addr) (c : Nat) (ys : List Int) (h : TapeAt w p t F) (hy : Kd.C (Kd.int .u8) w A ys.length ys) (hn : t.room - t.bs.length < ys.length) :
    Calls Try.prog 20 #[.pointer (some ⟨p, 0, none⟩), .slice A ys.length c] w (RetT w p F t 5) := by
  have HT := Aside0.mk h
  have hlen : ys.length ≤ 9223372036854775807 := hy.2.1
  obtain ⟨B, d, hh, hc, hp, hr, hok⟩ := h
  obtain ⟨c0, c1, c2, f0, f1, f2⟩ := three_cells hh
  have hl1 : t.bs.length ≤ t.room := hok.2.2.1
  have hl2 : t.room ≤ 65536 := hok.2.1
  clear hh hr hok
  have ht1 : IntKind.i64.wrap ((t.room : Int) - (t.bs.length : Int)) = (t.room : Int) - (t.bs.length : Int) := IntWalk.i64_in _ (by omega)
  have ht2 : (t.room : Int) - (t.bs.length : Int) < (ys.length : Int) := by omega
  go_enter Try.func20, Try.ntmps20
  go_wp2_with fail
  refine (made_calls _ p t F HT.out).mono ?_
  rintro e w1 ⟨rfl, rfl⟩
  go_wp2_with fail
  go_quiet (fail)
  go_wp2
  go_ret
  exact ⟨rfl, (HT.out.mono (fun k hk _ => .inl hk)).below (below_draws _ _), grown_of_below (below_draws _ _) _⟩
theorem append_close (w1 w2 w3 : World) (p : Nat) (t : TS) (F : Nat → Prop) (ys : List Int) (A1 B : Option Addr) (c3 d : Nat) (hb2 : Below w1.heap.size w1 w2) (hb3 : Below w2.heap.size w2 w3)
    (hh : w3.heap[p]? = some (.cells #[.int .i64 t.room, .slice B t.bs.length d, .int .i64 t.forced] 57 (0, 0))) (hc : t.bs.length + ys.length ≤ c3) (hr : RB w3 (New w2.drew (fun k => F k ∧ k ≠ p)) A1 (t.bs ++ ys)) (hp : F p) (hpl : p < w1.heap.size)
    (hok : TS.ok { t with bs := t.bs ++ ys }) :
    RetT w1 p F { t with bs := t.bs ++ ys } 0 (.returned (.int .i64 0)) (w3.setCell ⟨p, 1, none⟩ (.slice A1 (t.bs.length + ys.length) c3)) := by
  have hs2 : w1.heap.size ≤ w2.heap.size := hb2.size
  refine ⟨rfl, ⟨A1, c3, ?_, by show (t.bs ++ ys).length ≤ c3; rw [List.length_append]; exact hc, .inl hp, ?_, hok⟩, grown_below (hb2.trans (hb3.mono hs2)) (grown_set _ _ _ _)⟩
  · show _ = some (Obj.cells #[.int .i64 t.room, .slice A1 (t.bs ++ ys).length c3, .int .i64 t.forced] _ _)
    rw [List.length_append]
    exact heap_set _ hh
  · refine (RB.grown hr (grown_set w3 p 1 _) (fun k hk e => ?_)).mono (fun k hk _ => ?_)
    · injection e with e
      subst e
      rcases hk with hk | hk
      · exact hk.2 rfl
      · have : w2.heap.size ≤ k := hk
        omega
    · rcases hk with hk | hk
      · exact ⟨.inl hk.1, hk.2⟩
      · have : w2.heap.size ≤ k := hk
        exact ⟨.inr (by omega), by omega⟩
set_option maxHeartbeats 4000000 in
theorem append_room (w : World) (p : Nat) (t : TS) (F : Nat → Prop) (A : Option Addr) (c : Nat) (ys : List Int) (h : TapeAt w p t F) (hy : Kd.C (Kd.int .u8) w A ys.length ys) (hb : Bytes ys) (hn : ¬ t.room - t.bs.length < ys.length) :
    Calls Try.prog 20 #[.pointer (some ⟨p, 0, none⟩), .slice A ys.length c] w (RetT w p F { t with bs := t.bs ++ ys } 0) := by
  have HT := Aside0.mk h
  have HOK2 : Aside0 (TS.ok { t with bs := t.bs ++ ys }) := ⟨by
    obtain ⟨_, _, _, _, _, _, hok⟩ := h
    have := TS.append_ok hok hb
    unfold TS.append at this
    rw [if_neg hn] at this
    exact this⟩
  have HY := Aside0.mk hy
  have hlen : ys.length ≤ 9223372036854775807 := hy.2.1
  obtain ⟨B, d, hh, hc, hp, hr, hok⟩ := h
  obtain ⟨c0, c1, c2, f0, f1, f2⟩ := three_cells hh
  have hl1 : t.bs.length ≤ t.room := hok.2.2.1
  have hl2 : t.room ≤ 65536 := hok.2.1
  have HH := Aside0.mk hh
  have HR := Aside0.mk hr
  have HP := Aside0.mk hp
  have HPL := Aside0.mk (Array.getElem?_eq_some_iff.1 HH.out).1
  clear hh hr hok hy hp hb
  have ht1 : IntKind.i64.wrap ((t.room : Int) - (t.bs.length : Int)) = (t.room : Int) - (t.bs.length : Int) := IntWalk.i64_in _ (by omega)
  have ht2 : ¬ (t.room : Int) - (t.bs.length : Int) < (ys.length : Int) := by omega
  go_enter Try.func20, Try.ntmps20
  go_wp2_with fail
  refine (made_calls _ p t F HT.out).mono ?_
  rintro e w1 ⟨rfl, rfl⟩
  go_wp2_with fail
  go_quiet (fail)
  go_wp2
  obtain ⟨w2, hw2⟩ : ∃ w2, w2 = w1.drewN nq := ⟨_, rfl⟩
  have HB2 : Aside0 (Below w1.heap.size w1 w2) := ⟨by rw [hw2]; exact below_draws _ _⟩
  have HH2 := Aside0.mk (blk_keep HH.out HB2.out)
  have HR2 := Aside0.mk (HR.out.below HB2.out)
  have HY2 := Aside0.mk (Kd.C_below HY.out HB2.out)
  rw [← hw2]
  clear hw2 c0 c1 c2 f0 f1 f2 HH HR HY HT ht1
  obtain ⟨c0, c1, c2, f0, f1, f2⟩ := three_cells HH2.out
  have k0 : (0 : Int) ≤ (t.bs.length : Int) := by omega
  have k1 : (t.bs.length : Int) ≤ (d : Int) := by omega
  go_region_law (refine step_app_full rfl (.tmp 36) (.tmp 37) rfl (fun k => F k ∧ k ≠ p) B A t.bs.length ys.length c t.bs ys rfl rfl rfl rfl ?aR ?aY ?aL ?_; (case aR => exact HR2.out.below (below_drew (Below.refl _ _))); (case aY => exact Kd.C_below HY2.out (below_drew (Below.refl _ _))); (case aL => omega); intro A1 c3 w3 hc3 hr3 hb3'; have hb3 : Below w2.heap.size w2 w3 := (below_drew (Below.refl _ _)).trans hb3'; have hh3 := blk_keep HH2.out hb3; obtain ⟨d0, d1, d2, g0, g1, g2⟩ := three_cells hh3; have HH3 := Aside0.mk hh3; have HB3 := Aside0.mk hb3; have HR3 := Aside0.mk hr3; have HC3 := Aside0.mk hc3; clear hh3 hb3 hb3' hr3 hc3)
  all_goals
    go_wp2
    go_ret
    exact append_close w1 w2 w3 p t F ys A1 B c3 d HB2.out HB3.out HH3.out HC3.out HR3.out HP.out HPL.out HOK2.out
theorem append_calls (w : World) (p : Nat) (t : TS) (F : Nat → Prop) (A : Option Addr) (c : Nat) (ys : List Int) (h : TapeAt w p t F) (hy : Kd.C (Kd.int .u8) w A ys.length ys) (hb : Bytes ys) :
    Calls Try.prog 20 #[.pointer (some ⟨p, 0, none⟩), .slice A ys.length c] w (RetT w p F (t.append ys).1 (t.append ys).2) := by
  unfold TS.append
  split
  · rename_i hn; exact append_full w p t F A c ys h hy hn
  · rename_i hn; exact append_room w p t F A c ys h hy hb hn
end Go.Proofs.Ytcnohnieoecpdaa.Oct
