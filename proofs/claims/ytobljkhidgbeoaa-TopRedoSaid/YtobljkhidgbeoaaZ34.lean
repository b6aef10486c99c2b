
import Derived.Test.YtobljkhidgbeoaaZ32
import Derived.Test.YtobljkhidgbeoaaZ33
/- Images: As. -/
namespace Go.Proofs.Ytobljkhidgbeoaa.Oct
open Go.RowKit Go.Proofs.YtobljkhidgbeoaaW.PrintWords Go.Proofs.Ytobljkhidgbeoaa.M
set_option linter.unusedVariables false
set_option linter.unusedSimpArgs false
def p2Row (v : Value) (l : List (Int × Int)) : Part := row 108 2 v l.length (prCells l)
def refObj (p i : Value) (n : Int) : Obj := .cells #[p, i, .int .i64 n] 58 (0, 0)
def AsS (b1 b3 : Nat) (ad : Addr) (n c k : Nat) (x y : Int) (P : Option Addr) (cc : Nat) (W : World) : Prop := W.cell? ⟨b1, 0, none⟩ = some (.slice (some ad) n c) ∧ W.cell? (ad.add (k * 2)) = some (.int .i64 x) ∧ W.cell? ⟨(ad.add (k * 2)).block, (ad.add (k * 2)).off + 1, none⟩ = some (.int .u64 y) ∧ W.cell? ⟨b3, 0, none⟩ = some (.slice P k cc)
def AsR (l : List (Int × Int)) (i : Value) (nx : Int) (e : Ending) (l' : List Part) : Prop := ∃ p, e = .returned (.agg #[p, i, .int .i64 nx]) ∧ l' = [p2Row p l]
set_option maxRecDepth 100000 in
set_option maxHeartbeats 16000000 in
theorem as_calls (w : World) (A I : Option Addr) (c ni ci n : Nat) (l : List (Int × Int)) (nx : Int) (hn : n = l.length) (hA : PrAt w A l) (hll : n ≤ 1000) :
    Calls Try.prog 18 #[.agg #[.slice A n c, .slice I ni ci, .int .i64 nx]] w (Ret w (fun _ => False) (AsR l (.slice I ni ci) nx)) := by
  have HA := Aside0.mk hA
  have HN := Aside0.mk hn
  have HST0 : Aside0 (St w (fun _ => False) (w.alloc (.cells #[.slice A n c, .slice I ni ci, .int .i64 nx] 36)) [pt w.heap.size (.cells #[.slice A n c, .slice I ni ci, .int .i64 nx] 36 (0, 0))]) := ⟨(St.start (Sep.nil w _)).alloc _⟩
  obtain ⟨s0, s1, s2, _⟩ := heap3 (blk_keep HST0.out.heap (below_alloc (Below.refl _ _) (.cells #[.slice none 0 0, .slice none 0 0, .int .i64 0] 58)))
  have HST1 : Aside0 (St w (fun _ => False) (((w.alloc (.cells #[.slice A n c, .slice I ni ci, .int .i64 nx] 36)).alloc (.cells #[.slice none 0 0, .slice none 0 0, .int .i64 0] 58)).alloc (.cells #[.slice none 0 0, .slice I ni ci, .int .i64 nx] 58)) [pt w.heap.size (.cells #[.slice A n c, .slice I ni ci, .int .i64 nx] 36 (0, 0)), pt (w.heap.size + 1) (refObj (.slice none 0 0) (.slice none 0 0) 0), pt (w.heap.size + 1 + 1) (refObj (.slice none 0 0) (.slice I ni ci) nx), p2Row (.slice none 0 0) (l.take 0)]) := ⟨by
    have h1 := (((HST0.out.alloc (.cells #[.slice none 0 0, .slice none 0 0, .int .i64 0] 58)).alloc (.cells #[.slice none 0 0, .slice I ni ci, .int .i64 nx] 58)).free (A := p2Row (.slice none 0 0) (l.take 0)) (row_nil _ _ _ _)).pick [3, 2, 1, 0] (by decide)
    have e1 : (w.alloc (.cells #[.slice A n c, .slice I ni ci, .int .i64 nx] 36)).heap.size = w.heap.size + 1 := by simp
    have e2 : ((w.alloc (.cells #[.slice A n c, .slice I ni ci, .int .i64 nx] 36)).alloc (.cells #[.slice none 0 0, .slice none 0 0, .int .i64 0] 58)).heap.size = w.heap.size + 1 + 1 := by simp
    rw [e2, e1] at h1
    exact h1⟩
  clear hA hn
  go_enter Try.func18, Try.ntmps18
  go_wp2_with fail
  obtain ⟨b1, hb1⟩ : ∃ b1, b1 = w.heap.size := ⟨_, rfl⟩
  generalize World.alloc _ _ = W1 at HST1 ⊢
  rw [← hb1] at HST1 ⊢
  obtain ⟨b2, hb2⟩ : ∃ b2, b2 = b1 + 1 := ⟨_, rfl⟩
  rw [← hb2] at HST1 ⊢
  obtain ⟨b3, hb3⟩ : ∃ b3, b3 = b2 + 1 := ⟨_, rfl⟩
  rw [← hb3] at HST1 ⊢
  clear hb1 hb2 hb3 HST0 s0 s1 s2
  go_loopw [4] (fun v4 wr => ∃ (k : Nat) (pv : Value), k ≤ n ∧ v4 = .int .i64 k ∧ Aside0 (St w (fun _ => False) wr [pt b1 (.cells #[.slice A n c, .slice I ni ci, .int .i64 nx] 36 (0, 0)), pt b2 (refObj (.slice none 0 0) (.slice none 0 0) 0), pt b3 (refObj pv (.slice I ni ci) nx), p2Row pv (l.take k)])) (fun v _ => n - (intOf v).toNat)
  case atStart => exact ⟨0, _, by omega, rfl, HST1⟩
  case round =>
    obtain ⟨k, pv, hk, rfl, HST⟩ := hrel
    obtain ⟨y0, y1, y2, _⟩ := heap3 HST.out.heap
    obtain ⟨P, cc, rfl, _, _⟩ := row_form ((HST.out.1.pick [3] (by decide)).one).1
    have hpl : (l.take k).length = k := by rw [List.length_take, ← HN.out]; omega
    have HPL := Aside0.mk hpl
    rw [hpl] at HST
    by_cases hlt : k < n
    · have hlt' : (k : Int) < (n : Int) := by omega
      have hkl : k < l.length := by rw [← HN.out]; exact hlt
      have hbel : Below w.heap.size w wr := HST.out.2.below (fun _ h => h)
      obtain ⟨ad, rfl, k0, k1⟩ := HA.out k hkl
      have hnx : prCells (l.take (k + 1)) = prCells (l.take k) ++ [.int .i64 (l.getD k (0, 0)).1, .int .u64 (l.getD k (0, 0)).2] := by
        unfold prCells
        rw [List.take_succ_eq_append_getElem hkl, List.flatMap_append, List.getD_eq_getElem?_getD, List.getElem?_eq_getElem hkl]
        rfl
      have hnl : (l.take (k + 1)).length = k + 1 := by rw [List.length_take]; omega
      obtain ⟨x, hx⟩ : ∃ x, x = (l.getD k (0, 0)).1 := ⟨_, rfl⟩
      obtain ⟨y, hy⟩ : ∃ y, y = (l.getD k (0, 0)).2 := ⟨_, rfl⟩
      rw [← hx, ← hy] at hnx
      rw [← hx] at k0
      rw [← hy] at k1
      have HNX := Aside0.mk hnx
      have HNL := Aside0.mk hnl
      have HK0 := Aside0.mk k0
      have HK1 := Aside0.mk k1
      -- what is read, in any world
      have HS : Aside0 (∀ W l', St w (fun _ => False) W (pt b1 (.cells #[.slice (some ad) n c, .slice I ni ci, .int .i64 nx] 36 (0, 0)) :: l') → W.cell? ⟨b1, 0, none⟩ = some (.slice (some ad) n c) ∧ W.cell? (ad.add (k * 2)) = some (.int .i64 x) ∧ W.cell? ⟨(ad.add (k * 2)).block, (ad.add (k * 2)).off + 1, none⟩ = some (.int .u64 y)) := ⟨fun W l' h => ⟨(heap3 h.heap).1, cell_below HK0.out (h.2.below (fun _ h => h)), cell_below HK1.out (h.2.below (fun _ h => h))⟩⟩
      have HST2 : Aside0 (St w (fun _ => False) wr.drew (pt b1 (.cells #[.slice (some ad) n c, .slice I ni ci, .int .i64 nx] 36 (0, 0)) :: [pt b2 (refObj (.slice none 0 0) (.slice none 0 0) 0), pt b3 (refObj (.slice P k cc) (.slice I ni ci) nx), p2Row (.slice P k cc) (l.take k)])) := ⟨HST.out.drew⟩
      have HST3 : Aside0 (St w (fun _ => False) (wr.drew.alloc (.cells [Value.int .i64 x, .int .u64 y].toArray 108)) (pt b1 (.cells #[.slice (some ad) n c, .slice I ni ci, .int .i64 nx] 36 (0, 0)) :: [pt b2 (refObj (.slice none 0 0) (.slice none 0 0) 0), pt b3 (refObj (.slice P k cc) (.slice I ni ci) nx), row 108 2 (.slice P k cc) k (prCells (l.take k)), pt wr.heap.size (.cells [Value.int .i64 x, .int .u64 y].toArray 108 (0, 0))])) := ⟨by
        have h1 := (HST2.out.alloc (.cells [Value.int .i64 x, .int .u64 y].toArray 108)).pick [1, 2, 3, 4, 0] (by decide)
        unfold p2Row at h1
        rw [hpl] at h1
        exact h1⟩
      have hS2 : AsS b1 b3 ad n c k x y P cc wr.drew := ⟨(HS.out _ _ HST2.out).1, (HS.out _ _ HST2.out).2.1, (HS.out _ _ HST2.out).2.2, (heap3 (HST2.out.pick [2] (by decide)).heap).1⟩
      have hS3 : AsS b1 b3 ad n c k x y P cc (wr.drew.alloc (.cells [Value.int .i64 x, .int .u64 y].toArray 108)) := ⟨(HS.out _ _ HST3.out).1, (HS.out _ _ HST3.out).2.1, (HS.out _ _ HST3.out).2.2, (heap3 (HST3.out.pick [2] (by decide)).heap).1⟩
      clear hx hy hnx hnl hpl hkl hbel k0 k1 HST y1 y2
      go_wp2_with fail
      refine OctL.region_L (AsS b1 b3 ad n c k x y P cc) 18 (by kernel_rfl) ?_
      refine OctL.anyL_at (i := 0) (d := 17) (v := .pointer (some ⟨b3, 0, none⟩)) (by kernel_rfl) rfl rfl (by kernel_rfl) (by kernel_rfl) (by kernel_rfl) (fun _ _ _ h => h) rfl hS2 (by intro W' hW'; obtain ⟨q1, q2, q3, q4⟩ := hW'; go_simp) ?_
      dsimp only
      simp only [List.setIfInBounds_toArray, List.set_cons_zero, List.set_cons_succ]
      refine OctL.anyL_at (i := 2) (d := 19) (v := .pointer (some ⟨b1, 0, none⟩)) (by kernel_rfl) rfl rfl (by kernel_rfl) (by kernel_rfl) (by kernel_rfl) (fun _ _ _ h => h) rfl hS2 (by intro W' hW'; obtain ⟨q1, q2, q3, q4⟩ := hW'; go_simp) ?_
      dsimp only
      simp only [List.setIfInBounds_toArray, List.set_cons_zero, List.set_cons_succ]
      refine OctL.anyL_at (i := 4) (d := 21) (v := .int .i64 (k : Int)) (by kernel_rfl) rfl rfl (by kernel_rfl) (by kernel_rfl) (by kernel_rfl) (fun _ _ _ h => h) rfl hS2 (by intro W' hW'; obtain ⟨q1, q2, q3, q4⟩ := hW'; go_simp) ?_
      dsimp only
      simp only [List.setIfInBounds_toArray, List.set_cons_zero, List.set_cons_succ]
      refine OctL.anyL_at (i := 8) (d := 25) (v := .pointer (some ⟨b1, 0, none⟩)) (by kernel_rfl) rfl rfl (by kernel_rfl) (by kernel_rfl) (by kernel_rfl) (fun _ _ _ h => h) rfl hS2 (by intro W' hW'; obtain ⟨q1, q2, q3, q4⟩ := hW'; go_simp) ?_
      dsimp only
      simp only [List.setIfInBounds_toArray, List.set_cons_zero, List.set_cons_succ]
      refine OctL.anyL_at (i := 10) (d := 27) (v := .int .i64 (k : Int)) (by kernel_rfl) rfl rfl (by kernel_rfl) (by kernel_rfl) (by kernel_rfl) (fun _ _ _ h => h) rfl hS2 (by intro W' hW'; obtain ⟨q1, q2, q3, q4⟩ := hW'; go_simp) ?_
      dsimp only
      simp only [List.setIfInBounds_toArray, List.set_cons_zero, List.set_cons_succ]
      refine OctL.anyL_at (i := 1) (d := 18) (v := .slice P k cc) (by kernel_rfl) rfl rfl (by kernel_rfl) (by kernel_rfl) (by kernel_rfl) (fun _ _ _ h => h) rfl hS2 (by intro W' hW'; obtain ⟨q1, q2, q3, q4⟩ := hW'; go_simp) ?_
      dsimp only
      simp only [List.setIfInBounds_toArray, List.set_cons_zero, List.set_cons_succ]
      refine OctL.anyL_at (i := 3) (d := 20) (v := .slice (some ad) n c) (by kernel_rfl) rfl rfl (by kernel_rfl) (by kernel_rfl) (by kernel_rfl) (fun _ _ _ h => h) rfl hS2 (by intro W' hW'; obtain ⟨q1, q2, q3, q4⟩ := hW'; go_simp) ?_
      dsimp only
      simp only [List.setIfInBounds_toArray, List.set_cons_zero, List.set_cons_succ]
      refine OctL.anyL_at (i := 5) (d := 22) (v := .pointer (some (ad.add (k * 2)))) (by kernel_rfl) rfl rfl (by kernel_rfl) (by kernel_rfl) (by kernel_rfl) (fun _ _ _ h => h) rfl hS2 (by intro W' hW'; obtain ⟨q1, q2, q3, q4⟩ := hW'; go_simp) ?_
      dsimp only
      simp only [List.setIfInBounds_toArray, List.set_cons_zero, List.set_cons_succ]
      refine OctL.anyL_at (i := 6) (d := 23) (v := .pointer (some (ad.add (k * 2)))) (by kernel_rfl) rfl rfl (by kernel_rfl) (by kernel_rfl) (by kernel_rfl) (fun _ _ _ h => h) rfl hS2 (by intro W' hW'; obtain ⟨q1, q2, q3, q4⟩ := hW'; go_simp) ?_
      dsimp only
      simp only [List.setIfInBounds_toArray, List.set_cons_zero, List.set_cons_succ]
      refine OctL.anyL_at (i := 7) (d := 24) (v := .int .i64 x) (by kernel_rfl) rfl rfl (by kernel_rfl) (by kernel_rfl) (by kernel_rfl) (fun _ _ _ h => h) rfl hS2 (by intro W' hW'; obtain ⟨q1, q2, q3, q4⟩ := hW'; go_simp) ?_
      dsimp only
      simp only [List.setIfInBounds_toArray, List.set_cons_zero, List.set_cons_succ]
      refine OctL.anyL_at (i := 9) (d := 26) (v := .slice (some ad) n c) (by kernel_rfl) rfl rfl (by kernel_rfl) (by kernel_rfl) (by kernel_rfl) (fun _ _ _ h => h) rfl hS2 (by intro W' hW'; obtain ⟨q1, q2, q3, q4⟩ := hW'; go_simp) ?_
      dsimp only
      simp only [List.setIfInBounds_toArray, List.set_cons_zero, List.set_cons_succ]
      refine OctL.anyL_at (i := 11) (d := 28) (v := .pointer (some (ad.add (k * 2)))) (by kernel_rfl) rfl rfl (by kernel_rfl) (by kernel_rfl) (by kernel_rfl) (fun _ _ _ h => h) rfl hS2 (by intro W' hW'; obtain ⟨q1, q2, q3, q4⟩ := hW'; go_simp) ?_
      dsimp only
      simp only [List.setIfInBounds_toArray, List.set_cons_zero, List.set_cons_succ]
      refine OctL.anyL_at (i := 12) (d := 29) (v := .pointer (some ⟨(ad.add (k * 2)).block, (ad.add (k * 2)).off + 1, none⟩)) (by kernel_rfl) rfl rfl (by kernel_rfl) (by kernel_rfl) (by kernel_rfl) (fun _ _ _ h => h) rfl hS2 (by intro W' hW'; obtain ⟨q1, q2, q3, q4⟩ := hW'; go_simp) ?_
      dsimp only
      simp only [List.setIfInBounds_toArray, List.set_cons_zero, List.set_cons_succ]
      refine OctL.anyL_at (i := 13) (d := 30) (v := .int .u64 y) (by kernel_rfl) rfl rfl (by kernel_rfl) (by kernel_rfl) (by kernel_rfl) (fun _ _ _ h => h) rfl hS2 (by intro W' hW'; obtain ⟨q1, q2, q3, q4⟩ := hW'; go_simp) ?_
      dsimp only
      simp only [List.setIfInBounds_toArray, List.set_cons_zero, List.set_cons_succ]
      refine OctL.anyL_at (i := 14) (d := 31) (v := .agg #[.int .i64 x, .int .u64 y]) (by kernel_rfl) rfl rfl (by kernel_rfl) (by kernel_rfl) (by kernel_rfl) (fun _ _ _ h => h) rfl hS2 (by intro W' hW'; obtain ⟨q1, q2, q3, q4⟩ := hW'; go_simp) ?_
      dsimp only
      simp only [List.setIfInBounds_toArray, List.set_cons_zero, List.set_cons_succ]
      refine OctL.anyL_one (i := 15) (by kernel_rfl) rfl (fun K' hK => ?_)
      have HKA := Aside0.mk hK
      clear hK
      go_simp
      go_wp2
      refine HKA.out _ _ (.inr hS3) ?_
      clear HKA K'
      refine OctL.anyL_one (i := 16) (by kernel_rfl) rfl (fun K' hK => ?_)
      have HKA := Aside0.mk hK
      clear hK
      refine step_app1 rfl (.tmp 18) (.tmp 32) 56 108 (.agg #[.int .i64 0, .int .u64 0]) 2 16 (by kernel_rfl) Try.underlying56 rfl (by decide) rfl (.slice P k cc) k (prCells (l.take k)) [.int .i64 x, .int .u64 y] wr.heap.size 108 rfl rfl (HST3.out.1.pick [3] (by decide)).head.1 (HST3.out.pick [4] (by decide)).heap rfl (by intro u hu; simp at hu; rcases hu with rfl | rfl <;> rfl) (by omega) (by decide) ?_
      intro v5 w5 ho hg hn5
      obtain ⟨A8, c8, rfl, _, _⟩ := row_form ho
      have HST5 := Aside0.mk (((HST3.out.pick [3, 0, 1, 2, 4] (by decide)).grown ho hg hn5).pick [1, 2, 3, 0, 4] (by decide))
      have hS5 : AsS b1 b3 ad n c k x y P cc w5 := ⟨(HS.out _ _ HST5.out).1, (HS.out _ _ HST5.out).2.1, (HS.out _ _ HST5.out).2.2, (heap3 (HST5.out.pick [2] (by decide)).heap).1⟩
      have HST6 := Aside0.mk (((HST5.out.pick [2, 0, 1, 3, 4] (by decide)).set 0 (.slice A8 (k + 1) c8)).pick [1, 2, 0, 3, 4] (by decide))
      obtain ⟨c5, _, _, qf5, _, _⟩ := heap3 (HST5.out.pick [2] (by decide)).heap
      clear ho hg hn5
      refine HKA.out _ _ (.inr hS5) ?_
      clear HKA K'
      simp only [Act.put, List.setIfInBounds_toArray, List.set_cons_zero, List.set_cons_succ]
      refine OctL.anyL_at (i := 17) (d := 34) (v := .pointer (some ⟨b3, 0, none⟩)) (by kernel_rfl) rfl rfl (by kernel_rfl) (by kernel_rfl) (by kernel_rfl) (fun _ _ _ h => h) rfl hS5 (by intro W' hW'; obtain ⟨q1, q2, q3, q4⟩ := hW'; go_simp) ?_
      try dsimp only
      try simp only [List.setIfInBounds_toArray, List.set_cons_zero, List.set_cons_succ]
      refine OctL.anyL_one (i := 18) (by kernel_rfl) rfl (fun K' hK => ?_)
      have HKA := Aside0.mk hK
      clear hK
      go_simp
      go_wp2
      refine HKA.out _ _ (.inl trivial) ?_
      clear HKA K'
      refine OctL.anyL_done (by kernel_rfl) ?_ _
      go_wp2_with fail
      refine ⟨⟨k + 1, .slice A8 (k + 1) c8, by omega, by go_num, ⟨?_⟩⟩, by simp [intOf]; omega⟩
      have h6 := HST6.out.pick [0, 1, 2, 3] (by decide)
      unfold p2Row
      rw [HNL.out, HNX.out]
      exact h6
    · obtain rfl : k = n := by omega
      have hlt' : ¬ (k : Int) < (k : Int) := by omega
      have hall : l.take k = l := by rw [HN.out, List.take_length]
      rw [hall] at HST
      obtain ⟨t0, t1, t2, t3, t4, t5⟩ := heap3 (HST.out.pick [2] (by decide)).heap
      obtain ⟨z0, z1, z2, z3, z4, z5⟩ := heap3 (HST.out.pick [1] (by decide)).heap
      clear hpl hall hlt
      go_wp2_with fail
      have HST8 := Aside0.mk ((((HST.out.pick [1, 0, 2, 3] (by decide)).set 0 (.slice P k cc)).set 1 (.slice I ni ci)).set 2 (.int .i64 nx))
      generalize World.setCell _ _ _ = W8 at HST8 ⊢
      clear t0 t1 t2 t3 t4 t5 y0 y1 y2 z0 z1 z2 z3 z4 z5
      obtain ⟨t0, t1, t2, t3, t4, t5⟩ := heap3 (x := .slice P k cc) (y := .slice I ni ci) (z := .int .i64 nx) HST8.out.heap
      refine bodyPost_ret (v := .agg #[.slice P k cc, .slice I ni ci, .int .i64 nx]) (by simp [results, Try.results18, go_sem, t0, t1, t2, t3, t4, t5]) rfl ?_
      exact (HST8.out.pick [3] (by decide)).ret ⟨.slice P k cc, rfl, rfl⟩
end Go.Proofs.Ytobljkhidgbeoaa.Oct
/- Images: the document's Same. -/
namespace Go.Proofs.Ytobljkhidgbeoaa.Oct
open Go.RowKit Go.Proofs.YtobljkhidgbeoaaW.PrintWords Go.Proofs.Ytobljkhidgbeoaa.M
set_option linter.unusedVariables false
set_option linter.unusedSimpArgs false
theorem stood_pair13 : Try.prog.stoodInHeld 108 = false := by kernel_rfl
theorem eq_pair13 (w : World) (a b c d : Int) : (Op.equalIn 10000 108 (.agg #[.int .i64 a, .int .u64 b]) (.agg #[.int .i64 c, .int .u64 d])).run Try.prog w = .ok (a == c && b == d) w := by
  have u3 := Try.underlying3
  have u4 := Try.underlying71
  have h1 := run_equalIn_agg (P := Try.prog) w 9999 108 #[.int .i64 a, .int .u64 b] #[.int .i64 c, .int .u64 d] (by kernel_rfl) stood_pair13
  rw [show (10000 : Nat) = 9999 + 1 from rfl, h1]
  simp only [Program.fieldsOf, Try.underlying108]
  go_simp
  by_cases h1 : a = c <;> by_cases h2 : b = d <;> simp [h1, h2]
set_option maxRecDepth 100000 in
set_option maxHeartbeats 8000000 in
theorem same15_calls (w : World) (A B I J : Option Addr) (ca cb ci cj n ni : Nat) (l : List (Int × Int)) (vs : List Int) (nx : Int) (hn : n = l.length) (hni : ni = vs.length) (hA : PrAt w A l) (hB : PrAt w B l) (hI : U64At w I vs) (hJ : U64At w J vs) (hll : n ≤ 1000) (hvl : ni ≤ 1000) :
    Calls Try.prog 17 #[.agg #[.slice A n ca, .slice I ni ci, .int .i64 nx], .agg #[.slice B n cb, .slice J ni cj, .int .i64 nx]] w (Yes w) := by
  have HA := Aside0.mk hA
  have HB := Aside0.mk hB
  have HN := Aside0.mk hn
  have HW1 : Aside0 (Below w.heap.size w ((w.alloc (.cells #[.slice A n ca, .slice I ni ci, .int .i64 nx] 58)).alloc (.cells #[.slice B n cb, .slice J ni cj, .int .i64 nx] 58))) := ⟨below_alloc (below_alloc (Below.refl _ _) _) _⟩
  have h1 := blk_keep (heap_alloc_new w (.cells #[.slice A n ca, .slice I ni ci, .int .i64 nx] 58)) (below_alloc (Below.refl _ _) (.cells #[.slice B n cb, .slice J ni cj, .int .i64 nx] 58))
  have h2 := heap_alloc_new' (w.alloc (.cells #[.slice A n ca, .slice I ni ci, .int .i64 nx] 58)) (.cells #[.slice B n cb, .slice J ni cj, .int .i64 nx] 58) (w.heap.size + 1) (by simp)
  have HC := Aside0.mk (same14_calls _ I J ci cj ni vs hni (hI.below HW1.out) (hJ.below HW1.out) hvl)
  clear hA hB hn hni hI hJ
  go_enter Try.func17, Try.ntmps17
  obtain ⟨x0, x1, x2, _⟩ := heap3 h1
  obtain ⟨y0, y1, y2, _⟩ := heap3 h2
  have H1 := Aside0.mk h1
  have H2 := Aside0.mk h2
  clear h1 h2
  go_wp2_with fail
  obtain ⟨b2, hb2⟩ : ∃ b2, b2 = w.heap.size := ⟨_, rfl⟩
  obtain ⟨b3, hb3⟩ : ∃ b3, b3 = b2 + 1 := ⟨_, rfl⟩
  refine HC.out.mono ?_
  rintro e W2 ⟨rfl, hb⟩
  have HW2 := Aside0.mk (HW1.out.trans (hb.mono HW1.out.size))
  have h1 := blk_keep H1.out hb
  have h2 := blk_keep H2.out hb
  rw [← hb2] at h1 h2 ⊢
  rw [← hb3] at h2 ⊢
  have H3 := Aside0.mk h1
  have H4 := Aside0.mk h2
  clear h1 h2 hb H1 H2 HC HW1 x0 x1 x2 y0 y1 y2
  obtain ⟨x0, x1, x2, _⟩ := heap3 H3.out
  obtain ⟨y0, y1, y2, _⟩ := heap3 H4.out
  clear hb2 hb3
  go_wp2_with fail
  go_loopw [5] (fun v5 wr => ∃ k : Nat, k ≤ n ∧ v5 = .int .i64 k ∧ Aside0 (Below w.heap.size w wr) ∧ Aside0 (Below W2.heap.size W2 wr)) (fun v _ => n - (intOf v).toNat)
  case atStart => exact ⟨0, by omega, rfl, HW2, ⟨Below.refl _ _⟩⟩
  case round =>
    obtain ⟨k, hk, rfl, HW, HV⟩ := hrel
    have g1 := blk_keep H3.out HV.out
    have g2 := blk_keep H4.out HV.out
    clear x0 x1 x2 y0 y1 y2
    obtain ⟨x0, x1, x2, _⟩ := heap3 g1
    obtain ⟨y0, y1, y2, _⟩ := heap3 g2
    clear g1 g2
    by_cases hlt : k < n
    · have hlt' : (k : Int) < (n : Int) := by omega
      have hkl : k < l.length := by rw [← HN.out]; exact hlt
      obtain ⟨ad, rfl, k0, k1⟩ := (HA.out.below HW.out) k hkl
      obtain ⟨ad2, rfl, q0, q1⟩ := (HB.out.below HW.out) k hkl
      obtain ⟨x, hx⟩ : ∃ x, x = (l.getD k (0, 0)).1 := ⟨_, rfl⟩
      obtain ⟨y, hy⟩ : ∃ y, y = (l.getD k (0, 0)).2 := ⟨_, rfl⟩
      rw [← hx] at k0 q0
      rw [← hy] at k1 q1
      clear hkl hx hy
      have heq := fun w : World => eq_pair13 w x y x y
      simp only [beq_self_eq_true, Bool.and_self] at heq
      go_wp2_with fail
      go_quiet (fail)
      have HW2' : Aside0 (Below w.heap.size w (wr.drewN nq)) := ⟨HW.out.trans ((below_drawN wr nq).mono HW.out.size)⟩
      have HV2 : Aside0 (Below W2.heap.size W2 (wr.drewN nq)) := ⟨HV.out.trans ((below_drawN wr nq).mono HV.out.size)⟩
      go_wp2_with fail
      exact ⟨⟨k + 1, by omega, by go_num, HW2', HV2⟩, by simp [intOf]; omega⟩
    · have hlt' : ¬ (k : Int) < (n : Int) := by omega
      clear hlt
      go_wp2_with fail
      go_ret
      exact ⟨rfl, HW.out⟩
end Go.Proofs.Ytobljkhidgbeoaa.Oct
