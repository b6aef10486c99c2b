import Derived.Test.YtcicehldhelmbaaTapeG
namespace Go.Proofs.Ytcicehldhelmbaa.Oct
open Go.RowKit Go.Proofs.YtcicehldhelmbaaW.PrintWords Go.Proofs.Ytcicehldhelmbaa.M
set_option linter.unusedVariables false
set_option linter.unusedSimpArgs false
/-- a tape that stands above a mark, behind a call of its own -/
theorem live_ret {w W W1 W' : World} {base p : Nat} {t : TS} {n : Int} {e : Ending} {F : Nat → Prop} (hB : Below w.heap.size w W) (hb : Below W.heap.size W W1) (hr : RetT W1 p F t n e W') (hw : w.heap.size ≤ base) (hp : w.heap.size ≤ p) (hF : ∀ k, F k → base ≤ k) (hbase : base ≤ W1.heap.size) :
    e = .returned (.int .i64 n) ∧ TapeAt W' p t (fun k => base ≤ k) ∧ Below w.heap.size w W' := by
  obtain ⟨rfl, ht, hg⟩ := hr
  have hB1 := hB.trans (hb.mono hB.size)
  refine ⟨rfl, ht.mono (fun k hk _ => hk.elim (hF k) (fun hk => Nat.le_trans hbase hk)), hB1.grown hg hB1.size (fun k hk => by injection hk with hk; omega)⟩
theorem lit_reads {W : World} (xs : List Int) (h : xs.length ≤ 100) : Kd.C (Kd.int .u8) (W.alloc (.cells (nums .u8 xs).toArray 5)) (some ⟨W.heap.size, 0, none⟩) xs.length xs := block_reads _ (heap_alloc_new W _) (by omega)
set_option maxHeartbeats 2000000 in
theorem alive_calls (w : World) : Calls Try.prog 11 #[] w fun e w' => e = .returned (.bool true) ∧ Below w.heap.size w w' := by
  go_enter Try.func11, Try.ntmps11
  go_wp2_with fail
  refine (new_good _ 4 (by omega) (by omega)).mono ?_
  rintro e w1 ⟨rfl, ht, hb⟩
  have HT := Aside0.mk ht
  have HB := Aside0.mk hb
  clear ht hb
  go_wp2_with fail
  refine (new_bad _ 0 (by omega)).mono ?_
  rintro e w1' ⟨rfl, rfl⟩
  go_wp2_with fail
  refine (append_calls _ w.heap.size _ _ _ 2 [1, 2] (HT.out.below (below_alloc (Below.refl _ _) _)) (lit_reads [1, 2] (by decide)) (by unfold Bytes Byte; decide)).mono ?_
  intro e w2 hr
  rw [show TS.append ⟨4, [], 0⟩ [1, 2] = (⟨4, [1, 2], 0⟩, 0) from rfl] at hr
  obtain ⟨rfl, ht, hb⟩ := live_ret (base := w.heap.size) HB.out (below_alloc (Below.refl _ _) _) hr (Nat.le_refl _) (Nat.le_refl _) (fun _ h => h) (Nat.le_trans HB.out.size (below_alloc (Below.refl _ _) _).size)
  have HT2 := Aside0.mk ht
  have HB2 := Aside0.mk hb
  clear ht hb hr HT HB
  go_wp2_with fail
  refine (force_calls _ w.heap.size _ _ HT2.out).mono ?_
  intro e w3 hr
  rw [show TS.force ⟨4, [1, 2], 0⟩ = ⟨4, [1, 2], 2⟩ from rfl] at hr
  obtain ⟨rfl, ht, hb⟩ := live_ret (base := w.heap.size) HB2.out (Below.refl _ _) hr (Nat.le_refl _) (Nat.le_refl _) (fun _ h => h) HB2.out.size
  have HT3 := Aside0.mk ht
  have HB3 := Aside0.mk hb
  clear ht hb hr HT2 HB2
  go_wp2_with fail
  refine (append_calls _ w.heap.size _ _ _ 2 [3, 4] (HT3.out.below (below_alloc (Below.refl _ _) _)) (lit_reads [3, 4] (by decide)) (by unfold Bytes Byte; decide)).mono ?_
  intro e w4 hr
  rw [show TS.append ⟨4, [1, 2], 2⟩ [3, 4] = (⟨4, [1, 2, 3, 4], 2⟩, 0) from rfl] at hr
  obtain ⟨rfl, ht, hb⟩ := live_ret (base := w.heap.size) HB3.out (below_alloc (Below.refl _ _) _) hr (Nat.le_refl _) (Nat.le_refl _) (fun _ h => h) (Nat.le_trans HB3.out.size (below_alloc (Below.refl _ _) _).size)
  have HT4 := Aside0.mk ht
  have HB4 := Aside0.mk hb
  clear ht hb hr HT3 HB3
  go_wp2_with fail
  refine (crash_calls _ w.heap.size _ _ 1 HT4.out (by omega)).mono ?_
  intro e w5 hr
  rw [show TS.crash ⟨4, [1, 2, 3, 4], 2⟩ 1 = ⟨4, [1, 2, 3], 3⟩ from rfl] at hr
  obtain ⟨rfl, ht, hb⟩ := live_ret (base := w.heap.size) HB4.out (Below.refl _ _) hr (Nat.le_refl _) (Nat.le_refl _) (fun _ h => h) HB4.out.size
  have HT5 := Aside0.mk ht
  have HB5 := Aside0.mk hb
  clear ht hb hr HT4 HB4
  go_wp2_with fail
  refine (bytes_calls _ w.heap.size _ _ HT5.out).mono ?_
  rintro e w6 ⟨v, rfl, ho, hb⟩
  have hs := ho.string
  rw [show strOfNums [1, 2, 3] = ⟨#[1, 2, 3]⟩ by decide +kernel] at hs
  have HT6 := Aside0.mk (HT5.out.below hb)
  have HB6 := Aside0.mk (HB5.out.trans (hb.mono HB5.out.size))
  clear ho hb HT5 HB5
  go_wp2_with fail
  refine (append_calls _ w.heap.size _ _ _ 2 [5, 6] (HT6.out.below (below_alloc (Below.refl _ _) _)) (lit_reads [5, 6] (by decide)) (by unfold Bytes Byte; decide)).mono ?_
  intro e w7 hr
  rw [show TS.append ⟨4, [1, 2, 3], 3⟩ [5, 6] = (⟨4, [1, 2, 3], 3⟩, 5) from rfl] at hr
  obtain ⟨rfl, ht, hb⟩ := live_ret (base := w.heap.size) HB6.out (below_alloc (Below.refl _ _) _) hr (Nat.le_refl _) (Nat.le_refl _) (fun _ h => h) (Nat.le_trans HB6.out.size (below_alloc (Below.refl _ _) _).size)
  have HT7 := Aside0.mk ht
  have HB7 := Aside0.mk hb
  clear ht hb hr HT6 HB6 hs
  go_wp2_with fail
  refine (len_calls _ w.heap.size _ _ HT7.out).mono ?_
  rintro e w8 ⟨rfl, rfl⟩
  go_wp2_with fail
  refine (forced_calls _ w.heap.size _ _ HT7.out).mono ?_
  rintro e w9 ⟨rfl, rfl⟩
  go_wp2_with fail
  refine (room_calls _ w.heap.size _ _ HT7.out).mono ?_
  rintro e w10 ⟨rfl, rfl⟩
  go_wp2_with fail
  go_ret
  exact ⟨rfl, HB7.out⟩
end Go.Proofs.Ytcicehldhelmbaa.Oct
