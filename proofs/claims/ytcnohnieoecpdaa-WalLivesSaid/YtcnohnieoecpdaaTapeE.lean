import Derived.Laws.CopyOwn
import Derived.Test.YtcnohnieoecpdaaTapeD
namespace Go.Proofs.Ytcnohnieoecpdaa.Oct
open Go.RowKit Go.Proofs.YtcnohnieoecpdaaW.PrintWords Go.Proofs.Ytcnohnieoecpdaa.M
set_option linter.unusedVariables false
set_option linter.unusedSimpArgs false
theorem made_raw (w : World) (p r : Nat) (x y : Value) (T : TypeId) (hh : w.heap[p]? = some (.cells #[.int .i64 r, x, y] T (0, 0))) (hr : 0 < r) : Calls Try.prog 43 #[.pointer (some ⟨p, 0, none⟩)] w fun e w' => e = .returned (.bool true) ∧ w' = w := by
  obtain ⟨c0, _, _, _, _, _⟩ := three_cells hh
  have hroom : decide (0 < r) = true := by simp; omega
  go_enter Try.func43, Try.ntmps43
  go_wp2
  go_ret
  exact ⟨rfl, rfl⟩
theorem force_raw (w : World) (p r n c : Nat) (A : Option Addr) (y : Int) (T : TypeId) (hh : w.heap[p]? = some (.cells #[.int .i64 r, .slice A n c, .int .i64 y] T (0, 0))) (hr : 0 < r) : Calls Try.prog 46 #[.pointer (some ⟨p, 0, none⟩)] w fun e w' => e = .returned (.int .i64 0) ∧ w' = w.setCell ⟨p, 2, none⟩ (.int .i64 n) := by
  obtain ⟨c0, c1, c2, f0, f1, f2⟩ := three_cells hh
  have HH := Aside0.mk hh
  clear hh
  go_enter Try.func46, Try.ntmps46
  go_wp2_with fail
  refine (made_raw _ p r _ _ T HH.out hr).mono ?_
  rintro e w1 ⟨rfl, rfl⟩
  go_wp2
  go_ret
  exact ⟨rfl, rfl⟩
theorem splice_all (m : Nat) (ys : List Int) (h : ys.length = m) : splice (nums .u8 (List.replicate m 0)) 0 (nums .u8 ys) = nums .u8 ys := by
  unfold splice
  simp [nums, h]
theorem cells_of_ints {W : World} {ad : Addr} {m : Nat} {ys : List Int} (hc : ∀ j, j < m → W.cell? (ad.add j) = some (.int .u8 (ys.getD j 0))) (hm : m = ys.length) : ∀ j v, (nums .u8 ys)[j]? = some v → W.cell? (ad.add j) = some v := by
  intro j v hv
  have hj : j < ys.length := by
    have := (List.getElem?_eq_some_iff.1 hv).1
    simpa [nums] using this
  rw [hc j (by omega)]
  simpa [nums, List.getElem?_eq_getElem hj, List.getD_eq_getElem?_getD] using hv
theorem t_nums_one (ys : List Int) : ∀ v ∈ nums .u8 ys, v.oneCell' = true := fun v hv => by
  obtain ⟨q, _, rfl⟩ := List.mem_map.1 hv
  rfl
theorem swap_full (w : World) (p : Nat) (t : TS) (F : Nat → Prop) (A : Option Addr) (c : Nat) (ys : List Int) (h : TapeAt w p t F) (hy : Kd.C (Kd.int .u8) w A ys.length ys) (hn : t.room < ys.length) :
    Calls Try.prog 50 #[.pointer (some ⟨p, 0, none⟩), .slice A ys.length c] w (RetT w p F t 5) := by
  have HT := Aside0.mk h
  have hlen : ys.length ≤ 9223372036854775807 := hy.2.1
  obtain ⟨B, d, hh, hc, hp, hr, hok⟩ := h
  obtain ⟨c0, c1, c2, f0, f1, f2⟩ := three_cells hh
  have hnb : decide (t.room < ys.length) = true := by simp; omega
  clear hh hr hok hy
  go_enter Try.func50, Try.ntmps50
  go_wp2_with fail
  refine (made_calls _ p t F HT.out).mono ?_
  rintro e w1 ⟨rfl, rfl⟩
  go_wp2
  go_ret
  exact ⟨rfl, HT.out.mono (fun k hk _ => .inl hk), World.grownBy.refl _ _⟩
set_option maxHeartbeats 400000 in
theorem swap_room (w : World) (p : Nat) (t : TS) (F : Nat → Prop) (A : Option Addr) (c : Nat) (ys : List Int) (h : TapeAt w p t F) (hy : Kd.C (Kd.int .u8) w A ys.length ys) (hb : Bytes ys) (hA : ∀ ad, A = some ad → ad.block ≠ p) (hn : ¬ t.room < ys.length) :
    Calls Try.prog 50 #[.pointer (some ⟨p, 0, none⟩), .slice A ys.length c] w (RetT w p F { t with bs := ys, forced := ys.length } 0) := by
  have HT := Aside0.mk h
  have HOK2 : Aside0 (TS.ok { t with bs := ys, forced := ys.length }) := ⟨by
    obtain ⟨_, _, _, _, _, _, hok⟩ := h
    have := TS.swap_ok hok hb
    unfold TS.swap at this
    rw [if_neg hn] at this
    exact this⟩
  have HY := Aside0.mk hy
  obtain ⟨B, d, hh, hc, hp, hr, hok⟩ := h
  obtain ⟨c0, c1, c2, f0, f1, f2⟩ := three_cells hh
  have hl2 : t.room ≤ 65536 := hok.2.1
  have HPOS : Aside0 (0 < t.room) := ⟨hok.1⟩
  have HH := Aside0.mk hh
  have HP := Aside0.mk hp
  have HPL := Aside0.mk (Array.getElem?_eq_some_iff.1 hh).1
  have hnb : decide (t.room < ys.length) = false := by simp; omega
  obtain ⟨m, hm⟩ : ∃ m, m = ys.length := ⟨_, rfl⟩
  rw [← hm] at hnb HY ⊢
  have HM := Aside0.mk hm
  have hmk := print_make 22 5 .u8 1 Try.underlying22 info_u8 (by omega) m (by omega)
  have hml : m ≤ 65536 := by omega
  clear hh hr hok hy hp hb hm hn
  go_enter Try.func50, Try.ntmps50
  go_wp2_with fail
  refine (made_calls _ p t F HT.out).mono ?_
  rintro e w1 ⟨rfl, rfl⟩
  have hka := blk_keep HH.out (below_alloc (Below.refl _ w1) (.cells (madeCells #[.int .u8 0] m) 5))
  obtain ⟨a0, a1, a2, b0, b1, b2⟩ := three_cells hka
  have HKA := Aside0.mk hka
  clear hka
  have hmc : madeCells #[.int .u8 0] m = (nums .u8 (List.replicate m 0)).toArray := by
    rw [← Array.toList_inj]
    simp [nums, toList_madeCells_one]
  have HMC := Aside0.mk hmc
  have harm : ∀ (W5 : World), W5 = (w1.alloc (.cells (madeCells #[.int .u8 0] m) 5)).setCell ⟨p, 1, none⟩ (.slice (some ⟨w1.heap.size, 0, none⟩) m m) →
      W5.heap[w1.heap.size]? = some (.cells (nums .u8 (List.replicate m 0)).toArray 5 (0, 0)) ∧ Below w1.heap.size w1 (w1.alloc (.cells (madeCells #[.int .u8 0] m) 5)) ∧ Kd.C (Kd.int .u8) W5 A m ys ∧
      W5.heap[p]? = some (.cells #[.int .i64 t.room, .slice (some ⟨w1.heap.size, 0, none⟩) m m, .int .i64 t.forced] 57 (0, 0)) ∧ w1.grownBy W5 (some p) ∧ w1.heap.size < W5.heap.size := by
    rintro W5 rfl
    have hb := below_alloc (Below.refl _ w1) (.cells (madeCells #[.int .u8 0] m) 5)
    refine ⟨?_, hb, ?_, heap_set _ HKA.out, grown_below hb (grown_set _ _ _ _), by simp [World.setCell]⟩
    · rw [Below.heap_setCell _ _ _ _ (by show w1.heap.size ≠ p; have := HPL.out; omega), ← HMC.out]
      exact heap_alloc_new w1 _
    · refine C_step HY.out (fun ad e hlt => ?_)
      rw [Below.heap_setCell _ _ _ _ (by show ad.block ≠ p; exact hA ad e)]
      exact hb.block _ hlt
  have HARM := Aside0.mk harm
  clear hmc harm hA
  go_wp2_with ((with_reducible refine gate_dst (N := 26) rfl ?_); refine wpList_copy_splice rfl (.tmp 24) (.tmp 25) 22 22 rfl 5 Try.underlying22 ?k1 (some ⟨w1.heap.size, 0, none⟩) A m m m c rfl rfl w1.heap.size 0 (nums .u8 (List.replicate m 0)) 5 ?k2 (nums .u8 ys) ?k3 ?k4 ?k5 ?k6 w1.heap.size _ (Below.refl _ _) (Nat.le_refl _) ?_; (case k1 => kernel_rfl); (case k2 => exact (HARM.out _ rfl).1); (case k3 => simp [nums, ← HM.out]); (case k4 => exact fun hp => ⟨rfl, by obtain ⟨ad, e, hc⟩ := (reads_ints (HARM.out _ rfl).2.2.1).2.2 (by simpa [nums, ← HM.out] using hp); exact ⟨ad, e, cells_of_ints hc HM.out⟩⟩); (case k5 => simp [nums, ← HM.out]); (case k6 => exact t_nums_one ys); intro w6 hg6 hb6; have HG6 := Aside0.mk hg6.out; have HB6 := Aside0.mk hb6; clear hg6 hb6)
  have hh6 : w6.heap[p]? = some (.cells #[.int .i64 t.room, .slice (some ⟨w1.heap.size, 0, none⟩) m m, .int .i64 t.forced] 57 (0, 0)) := by rw [HB6.out.block p HPL.out]; exact (HARM.out _ rfl).2.2.2.1
  have HH6 := Aside0.mk hh6
  have HGB := Aside0.mk (HARM.out _ rfl).2.2.2.2.1
  have HSZ := Aside0.mk (HARM.out _ rfl).2.2.2.2.2
  clear hh6 a0 a1 a2 b0 b1 b2 c0 c1 c2 f0 f1 f2
  refine (force_raw _ p t.room m m (some ⟨w1.heap.size, 0, none⟩) t.forced 57 HH6.out HPOS.out).mono ?_
  rintro e w7 ⟨rfl, rfl⟩
  go_wp2_with fail
  go_ret
  have hg16 : w1.grownBy w6 (some p) := ⟨HB6.out.os.trans HGB.out.os, HB6.out.tape.trans HGB.out.tape, HB6.out.output.trans HGB.out.output, Nat.le_trans HGB.out.size HB6.out.size, fun k hk hne => (HB6.out.block k hk).trans (HGB.out.block k hk hne)⟩
  have hg6 := HG6.out
  rw [splice_all m ys HM.out.symm] at hg6
  have hpl := HPL.out
  refine ⟨rfl, ⟨some ⟨w1.heap.size, 0, none⟩, m, ?_, by show ys.length ≤ m; rw [HM.out]; exact Nat.le_refl _, .inl HP.out, ?_, by rw [HM.out]; exact HOK2.out⟩, World.grownBy.trans hg16 (grown_set _ _ _ _)⟩
  · show _ = some (Obj.cells #[.int .i64 t.room, .slice (some ⟨w1.heap.size, 0, none⟩) ys.length m, .int .i64 (m : Nat)] _ _)
    rw [← HM.out]
    exact heap_set _ HH6.out
  · have hr : RB w6 (fun k => w1.heap.size ≤ k) (some ⟨w1.heap.size, 0, none⟩) ys := ⟨block_reads ys hg6 (by have := HM.out; omega), fun ad e => by injection e with e; subst e; exact ⟨Nat.le_refl _, by have := HSZ.out; have := HB6.out.size; show w1.heap.size < _; omega⟩⟩
    exact (hr.grown (grown_set w6 p 2 _) (fun k hk e => by injection e with e; subst e; have : w1.heap.size ≤ k := hk; omega)).mono (fun k hk _ => ⟨.inr hk, by have : w1.heap.size ≤ k := hk; omega⟩)
theorem swap_calls (w : World) (p : Nat) (t : TS) (F : Nat → Prop) (A : Option Addr) (c : Nat) (ys : List Int) (h : TapeAt w p t F) (hy : Kd.C (Kd.int .u8) w A ys.length ys) (hb : Bytes ys) (hA : ∀ ad, A = some ad → ad.block ≠ p) :
    Calls Try.prog 50 #[.pointer (some ⟨p, 0, none⟩), .slice A ys.length c] w (RetT w p F (t.swap ys).1 (t.swap ys).2) := by
  unfold TS.swap
  split
  · rename_i hn; exact swap_full w p t F A c ys h hy hn
  · rename_i hn; exact swap_room w p t F A c ys h hy hb hA hn
end Go.Proofs.Ytcnohnieoecpdaa.Oct
