import Derived.Test.YtilogpjbdemceaaRecsE
namespace Go.Proofs.Ytilogpjbdemceaa.Oct
open Go.RowKit Go.Proofs.YtilogpjbdemceaaW.PrintWords Go.Proofs.Ytilogpjbdemceaa.M
set_option linter.unusedVariables false
set_option linter.unusedSimpArgs false
def RetW (w : World) (r : List Int × Int) (e : Ending) (w' : World) : Prop := ∃ v, e = .returned (.tuple #[v, .int .i64 r.2]) ∧ OB w' w.heap.size v r.1 ∧ Below w.heap.size w w'
theorem recM_long {xs : List Int} (h : 32765 < xs.length) : recM xs = ([], 2) := by unfold recM; rw [if_pos h]
theorem recM_good {xs : List Int} {N : Nat} (h : ¬ 32765 < xs.length) (hN : N = xs.length + 2) : recM xs = ((N : Int) / 256 :: (N : Int) % 256 :: xs, 0) := by unfold recM; rw [if_neg h, hN]
theorem recM_bytes {xs : List Int} (h : Bytes xs) : Bytes (recM xs).1 := by
  unfold recM
  split
  · exact Bytes.nil
  · exact Bytes.cons ⟨by omega, by omega⟩ (Bytes.cons ⟨by omega, by omega⟩ h)
theorem recM_len (xs : List Int) : (recM xs).1.length ≤ 32767 := by
  unfold recM
  split
  · simp
  · simp; omega
set_option maxHeartbeats 1000000 in
theorem swrite_calls (w : World) (A : Option Addr) (c : Nat) (xs : List Int) (hr : Kd.C (Kd.int .u8) w A xs.length xs) (hlen : xs.length ≤ 140737488355328) : Calls Try.prog 21 #[.slice A xs.length c] w (RetW w (recM xs)) := by
  have HR := Aside0.mk hr
  clear hr
  by_cases h : 32765 < xs.length
  · have HV := Aside0.mk (recM_long h)
    have h1 : 32767 < (xs.length : Int) + 2 := by omega
    have HL := Aside0.mk hlen
    have h2 : (xs.length : Int) + 2 ≤ 140737488355330 := by omega
    clear h hlen
    go_enter Try.func21, Try.ntmps21
    go_wp2
    go_ret2
    rw [HV.out]
    exact ⟨_, rfl, OB.nil _ _, Below.refl _ _⟩
  · obtain ⟨N, hN⟩ : ∃ N : Nat, N = xs.length + 2 := ⟨_, rfl⟩
    have HV := Aside0.mk (recM_good h hN)
    have hw : (xs.length : Int) + 2 = (N : Int) := by omega
    have h1 : (N : Int) ≤ 32767 := by omega
    have HL := Aside0.mk hlen
    clear h hlen hN
    go_enter Try.func21, Try.ntmps21
    go_wp2_with ((with_reducible refine gate_dst (N := 17) rfl ?_); at_builtin; refine app_bytes (W0 := w) w.heap.size rfl (.tmp 15) (.tmp 16) rfl _ [(N : Int) / 256, (N : Int) % 256] xs A xs.length c rfl rfl (own_lit w w.heap.size 5 .u8 [(N : Int) / 256, (N : Int) % 256] (Nat.le_refl _) (by simp)) (Kd.C_below HR.out (below_alloc (Below.refl _ _) _)) (below_alloc (Below.refl _ _) _) (below_alloc (Below.refl _ _) _).size ?aL ?_; (case aL => have := HL.out; simp only [List.length_cons, List.length_nil]; omega); intro v1 w1 ho hb _ _; have HO := Aside0.mk ho; have HB := Aside0.mk hb; clear ho hb)
    go_ret2
    rw [HV.out]
    exact ⟨_, rfl, HO.out, HB.out⟩
/-- a stream that stands above a mark, behind a call of its own -/
theorem slive_ret {w W W1 W' : World} {base p : Nat} {s : SS} {v : Value} {e : Ending} {F : Nat → Prop} (hB : Below w.heap.size w W) (hb : Below W.heap.size W W1) (hr : RetS W1 p F s v e W') (hw : w.heap.size ≤ base) (hF : ∀ k, F k → base ≤ k) (hbase : base ≤ W1.heap.size) :
    e = .returned v ∧ StreamAt W' p s (fun k => base ≤ k) ∧ Below w.heap.size w W' := by
  obtain ⟨rfl, ht, hg⟩ := hr
  have hB1 := hB.trans (hb.mono hB.size)
  refine ⟨rfl, ht.mono (fun k hk _ => hk.elim (hF k) (fun hk => Nat.le_trans hbase hk)), below_kept hB1 hg hB1.size (fun k hk => Nat.le_trans hw (hF k hk))⟩
theorem lit_reads {W : World} (xs : List Int) (h : xs.length ≤ 100) : Kd.C (Kd.int .u8) (W.alloc (.cells (nums .u8 xs).toArray 5)) (some ⟨W.heap.size, 0, none⟩) xs.length xs := block_reads _ (heap_alloc_new W _) (by omega)
theorem slive_get {w W W' : World} {p : Nat} {g : Got} {e : Ending} {F : Nat → Prop} (hB : Below w.heap.size w W) (hr : RetG W p F g e W') (hF : ∀ k, F k → w.heap.size ≤ k) :
    ∃ A c, e = .returned (.tuple #[.slice A g.out.length c, .bool g.whole, .int .i64 g.err]) ∧ StreamAt W' p g.st F ∧ OB W' W.heap.size (.slice A g.out.length c) g.out ∧ Below w.heap.size w W' := by
  obtain ⟨v, rfl, hs, ho, hk⟩ := hr
  obtain ⟨A, c, rfl, _⟩ := ho.reads
  exact ⟨A, c, rfl, hs, ho, below_kept hB hk hB.size hF⟩
set_option maxHeartbeats 2000000 in
theorem salive_calls (w : World) : Calls Try.prog 20 #[] w fun e w' => e = .returned (.bool true) ∧ Below w.heap.size w w' := by
  go_enter Try.func20, Try.ntmps20
  go_wp2_with fail
  refine (snew_calls _).mono ?_
  rintro e w1 ⟨rfl, ht, hb⟩
  have HT := Aside0.mk ht
  have HB := Aside0.mk hb
  clear ht hb
  go_wp2_with fail
  refine (sput_calls _ w.heap.size _ _ _ 3 [0, 4, 7] (HT.out.below (below_alloc (Below.refl _ _) _)) (lit_reads [0, 4, 7] (by decide)) (by unfold Bytes Byte; decide)).mono ?_
  intro e w2 hr
  rw [show SS.put ⟨0, [], false⟩ [0, 4, 7] = (⟨0, [0, 4, 7], false⟩, 0) from rfl] at hr
  obtain ⟨rfl, ht, hb⟩ := slive_ret (base := w.heap.size) HB.out (below_alloc (Below.refl _ _) _) hr (Nat.le_refl _) (fun _ h => h) (Nat.le_trans HB.out.size (below_alloc (Below.refl _ _) _).size)
  have HT2 := Aside0.mk ht
  have HB2 := Aside0.mk hb
  clear ht hb hr HT HB
  go_wp2_with fail
  refine (sget_calls _ w.heap.size _ _ 9 HT2.out (by omega)).mono ?_
  intro e w3 hr
  rw [show SS.get ⟨0, [0, 4, 7], false⟩ 9 = ⟨⟨0, [0, 4, 7], false⟩, [], false, 140⟩ from by kernel_rfl] at hr
  obtain ⟨A3, c3, rfl, ht, ho, hb⟩ := slive_get HB2.out hr (fun _ h => h)
  have HT3 := Aside0.mk ht
  have HB3 := Aside0.mk hb
  clear ht hb hr ho HT2 HB2
  go_wp2_with fail
  refine (sput_calls _ w.heap.size _ _ _ 1 [8] (HT3.out.below (below_alloc (Below.refl _ _) _)) (lit_reads [8] (by decide)) (by unfold Bytes Byte; decide)).mono ?_
  intro e w4 hr
  rw [show SS.put ⟨0, [0, 4, 7], false⟩ [8] = (⟨0, [0, 4, 7, 8], false⟩, 0) from rfl] at hr
  obtain ⟨rfl, ht, hb⟩ := slive_ret (base := w.heap.size) HB3.out (below_alloc (Below.refl _ _) _) hr (Nat.le_refl _) (fun _ h => h) (Nat.le_trans HB3.out.size (below_alloc (Below.refl _ _) _).size)
  have HT4 := Aside0.mk (ht.mono (G := fun k => w.heap.size ≤ k ∧ k < w4.heap.size) (fun k hk hlt => ⟨hk, hlt⟩))
  have HB4 := Aside0.mk hb
  clear ht hb hr HT3 HB3
  go_wp2_with fail
  refine (sget_calls _ w.heap.size _ _ 3 HT4.out (by omega)).mono ?_
  intro e w5 hr
  rw [show SS.get ⟨0, [0, 4, 7, 8], false⟩ 3 = ⟨⟨1, [8], false⟩, [0, 4, 7], false, 0⟩ from by kernel_rfl] at hr
  obtain ⟨A5, c5, rfl, ht, ho, hb⟩ := slive_get HB4.out hr (fun _ h => h.1)
  have HT5 := Aside0.mk ht
  have HB5 := Aside0.mk hb
  have HO5 := Aside0.mk ho
  clear ht hb hr ho HT4 HB4
  go_wp2_with fail
  refine (sget_calls _ w.heap.size _ _ 3 HT5.out (by omega)).mono ?_
  intro e w6 hr
  rw [show SS.get ⟨1, [8], false⟩ 3 = ⟨⟨0, [], false⟩, [8], true, 0⟩ from by kernel_rfl] at hr
  obtain ⟨v6, rfl, ht, ho, hk⟩ := hr
  obtain ⟨A6, c6, rfl, _⟩ := ho.reads
  have HB6 := Aside0.mk (below_kept HB5.out hk HB5.out.size (fun _ h => h.1))
  have hs6 := ho.string
  rw [show strOfNums [8] = ⟨#[8]⟩ by decide +kernel] at hs6
  have hs5 := (HO5.out.kept hk (fun k h1 h2 => by have := h2.2; omega)).string
  rw [show strOfNums [0, 4, 7] = ⟨#[0, 4, 7]⟩ by decide +kernel] at hs5
  change (convert _ _ (.slice A6 1 c6)).run _ _ = _ at hs6
  change (convert _ _ (.slice A5 3 c5)).run _ _ = _ at hs5
  clear ht ho hk HT5 HB5 HO5
  go_wp2_with fail
  go_ret
  exact ⟨rfl, HB6.out⟩
end Go.Proofs.Ytilogpjbdemceaa.Oct
