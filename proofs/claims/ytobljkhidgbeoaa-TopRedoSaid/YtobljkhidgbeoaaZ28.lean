
import Derived.Test.YtobljkhidgbeoaaZ27
/- The resource: Read. -/
namespace Go.Proofs.Ytobljkhidgbeoaa.Oct
open Go.RowKit Go.Proofs.YtobljkhidgbeoaaW.PrintWords Go.Proofs.Ytobljkhidgbeoaa.M
set_option linter.unusedVariables false
set_option linter.unusedSimpArgs false
theorem get_back {v : Int} (h0 : 0 ≤ v) (h : v < 18446744073709551616) : getM (beB v 8) = (v, 0) := by
  unfold getM
  rw [if_neg (by rw [beB_length]; omega)]
  have e : beB v 8 = [v / 72057594037927936 % 256, v / 281474976710656 % 256, v / 1099511627776 % 256, v / 4294967296 % 256, v / 16777216 % 256, v / 65536 % 256, v / 256 % 256, v % 256] := by
    simp [beB, List.range, List.range.loop, beAt]
  rw [e]
  simp only [getF, List.foldl_cons, List.foldl_nil]
  congr 1
  omega
theorem wrB_drop (l : List Ch) (k : Nat) (hk : k < l.length) : wrB (l.drop k) = chB (l.getD k ch0) ++ wrB (l.drop (k + 1)) := by
  rw [List.drop_eq_getElem_cons hk, List.getD_eq_getElem?_getD, List.getElem?_eq_getElem hk]
  rfl
theorem chB_parts (c : Ch) (r : List Int) : (chB c ++ r).getD 0 0 = c.kind ∧ ((chB c ++ r).take 9).drop 1 = beB c.key 8 ∧ ((chB c ++ r).take 17).drop 9 = beB c.val 8 ∧ (chB c ++ r).drop 17 = r := by
  have h1 := beB_length c.key 8
  have h2 := beB_length c.val 8
  refine ⟨rfl, ?_, ?_, ?_⟩
  · unfold chB
    rw [List.append_assoc, List.append_assoc, List.take_append, List.drop_append]
    simp [h1]
  · rw [List.take_append_of_le_length (Nat.le_of_eq (chB_len c).symm), List.take_of_length_le (Nat.le_of_eq (chB_len c))]
    unfold chB
    rw [← List.append_assoc, List.drop_append_of_le_length (by simp [h1]), List.drop_of_length_le (by simp [h1])]
    rfl
  · rw [List.drop_append, List.drop_of_length_le (Nat.le_of_eq (chB_len c)), chB_len]
    rfl
def sliceLen : Value → Nat
  | .slice _ n _ => n
  | _ => 0
def RdR (l : List Ch) (e : Ending) (l' : List Part) : Prop := ∃ v, e = .returned (.tuple #[v, .int .i64 0]) ∧ l' = [chRow v l]
set_option maxRecDepth 100000 in
set_option maxHeartbeats 8000000 in
theorem resread_calls (w : World) (l : List Ch) (A : Option Addr) (cp N : Nat) (hN : N = (wrB l).length) (h : Kd.C (Kd.int .u8) w A N (wrB l)) (hcp : N ≤ cp) (hl : l.length ≤ 48) (hk : ∀ c ∈ l, chOk c) :
    Calls Try.prog 14 #[.slice A N cp] w (Ret w (fun _ => False) (RdR l)) := by
  have HST0 : Aside0 (St w (fun _ => False) w []) := ⟨St.start (Sep.nil _ _)⟩
  have HL := Aside0.mk h
  have HK := Aside0.mk hk
  have HN := Aside0.mk hN
  have HLL := Aside0.mk hl
  have hN2 : N = l.length * 17 := by rw [hN, wrB_len]
  have hr1 : (N : Int).tmod 17 = 0 := by rw [hN2]; simp [Int.tmod_eq_emod_of_nonneg]
  have hr2 : ¬ (816 : Int) < (N : Int) := by omega
  have HCP := Aside0.mk hcp
  clear h hk hl hN hcp
  have hr3 : IntKind.i64.wrap ((N : Int).tmod 17) = 0 := by rw [hr1]; decide
  clear hN2
  go_enter Try.func14, Try.ntmps14
  go_wp2_with fail
  go_loopw [0, 4] (fun v0 v4 wr => ∃ (k n c : Nat) (B : Option Addr), k ≤ l.length ∧ v0 = .slice B n c ∧ Aside0 (n = (wrB (l.drop k)).length ∧ n ≤ c ∧ Kd.C (Kd.int .u8) w B n (wrB (l.drop k))) ∧ Aside0 (St w (fun _ => False) wr [chRow v4 (l.take k)])) (fun v _ _ => sliceLen v)
  case atStart => exact ⟨0, N, cp, A, by omega, rfl, ⟨HN.out, HCP.out, HL.out⟩, ⟨HST0.out.free (row_nil _ _ _ _)⟩⟩
  case round =>
    obtain ⟨k, n, c', B, hk, rfl, HB, HST⟩ := hrel
    have hn17 : n = (l.length - k) * 17 := by rw [HB.out.1, wrB_len, List.length_drop]
    by_cases hkl : k < l.length
    · have hn0 : 17 ≤ n := by omega
      have hlt' : (0 : Int) < (n : Int) := by omega
      have hnc := HB.out.2.1
      have hck := HK.out (l.getD k ch0) (by rw [List.getD_eq_getElem?_getD, List.getElem?_eq_getElem hkl]; exact List.getElem_mem hkl)
      have hdr := wrB_drop l k hkl
      have hnx : chCells (l.take (k + 1)) = chCells (l.take k) ++ (l.getD k ch0).cs := by
        rw [List.take_succ_eq_append_getElem hkl, chCells_app, List.getD_eq_getElem?_getD, List.getElem?_eq_getElem hkl]
        rfl
      obtain ⟨c, hc⟩ : ∃ c, c = l.getD k ch0 := ⟨_, rfl⟩
      rw [← hc] at hck hdr hnx
      obtain ⟨b0, b1, b2, b3⟩ := chB_parts c (wrB (l.drop (k + 1)))
      rw [← hdr] at b0 b1 b2 b3
      obtain ⟨xs, hxs⟩ : ∃ xs, xs = wrB (l.drop k) := ⟨_, rfl⟩
      rw [← hxs] at b0 b1 b2 b3
      have hC : Kd.C (Kd.int .u8) w B xs.length xs := by rw [hxs, ← HB.out.1]; exact HB.out.2.2
      have hxn : xs.length = n := by rw [hxs, ← HB.out.1]
      obtain ⟨ad, e, x0⟩ := C_byte hC (k := 0) (by omega)
      subst e
      rw [b0] at x0
      have hbelow : Below w.heap.size w wr := HST.out.2.below (fun _ h => h)
      have x0' := hbelow.cell (World.block_lt_of_cell? _ _ x0) ▸ x0
      have hC1 := Kd.C_mid (lo := 1) (hi := 9) hC (by omega) (by omega) (c := c') (by omega)
      have hC2 := Kd.C_mid (lo := 9) (hi := 17) hC (by omega) (by omega) (c := c') (by omega)
      have hC3 := Kd.C_drop hC (m := 17) (by omega) (c := c') (by omega)
      rw [b1, if_neg (by omega), beB_length] at hC1
      rw [b2, if_neg (by omega), beB_length] at hC2
      rw [b3] at hC3
      obtain ⟨i0, hi0, hz0, hz1, hz2⟩ := info_parts info_u8
      have hs1 := cut_mid (P := Try.prog) 45 5 .i64 .i64 Try.underlying45 hi0 1 hz1 (some ad) n c' 1 9 (by decide) (by decide) (by omega) (by omega)
      have hs2 := cut_mid (P := Try.prog) 45 5 .i64 .i64 Try.underlying45 hi0 1 hz1 (some ad) n c' 9 17 (by decide) (by decide) (by omega) (by omega)
      have hs3 := cut_from (P := Try.prog) 45 5 .i64 Try.underlying45 hi0 1 hz1 (some ad) n c' 17 (by decide) (by omega)
      have hs1' : ∀ W : World, (Instr.slice 45 (.slice (some ad) n c') (some (.int .i64 1)) (some (.int .i64 9)) none).run Try.prog W = .ok (.slice (some (ad.add 1)) 8 (c' - 1)) W := fun W => by
        rw [hs1 W, if_neg (by show ¬ c' = 1; omega)]
        rfl
      have hs2' : ∀ W : World, (Instr.slice 45 (.slice (some ad) n c') (some (.int .i64 9)) (some (.int .i64 17)) none).run Try.prog W = .ok (.slice (some (ad.add 9)) 8 (c' - 9)) W := fun W => by
        rw [hs2 W, if_neg (by show ¬ c' = 9; omega)]
        rfl
      obtain ⟨B3, hB3⟩ : ∃ B3, B3 = (if c' = 17 then some ad else (some ad).map (·.add (17 * (Kd.int .u8).sz))) := ⟨_, rfl⟩
      have hs3' : ∀ W : World, (Instr.slice 45 (.slice (some ad) n c') (some (.int .i64 17)) none none).run Try.prog W = .ok (.slice B3 (n - 17) (c' - 17)) W := fun W => by
        rw [hs3 W, hB3]
        rfl
      rw [← hB3] at hC3
      have HC3 : Aside0 (n - 17 = (wrB (l.drop (k + 1))).length ∧ n - 17 ≤ c' - 17 ∧ Kd.C (Kd.int .u8) w B3 (n - 17) (wrB (l.drop (k + 1)))) := ⟨by
        have e : n - 17 = (wrB (l.drop (k + 1))).length := by rw [wrB_len, List.length_drop]; omega
        exact ⟨e, by omega, by rw [e]; exact hC3⟩⟩
      obtain ⟨g1, g2, g3, g4, g5, g6⟩ := hck
      have HG1 : Aside0 (∀ W, Below w.heap.size w W → Calls Try.prog 39 #[.slice (some (ad.add 1)) 8 (c' - 1)] W fun e w' => e = .returned (.tuple #[.int .u64 c.key, .int .i64 0]) ∧ w' = W) := ⟨fun W hW => by
        have h1 : Kd.C (Kd.int .u8) W (some (ad.add 1)) (beB c.key 8).length (beB c.key 8) := by rw [beB_length]; exact Kd.C_below hC1 hW
        have := get_calls W (some (ad.add 1)) (c' - 1) (beB c.key 8) h1 (beB_bytes _ _)
        rw [get_back (by omega) (by omega), beB_length] at this
        exact this⟩
      have HG2 : Aside0 (∀ W, Below w.heap.size w W → Calls Try.prog 39 #[.slice (some (ad.add 9)) 8 (c' - 9)] W fun e w' => e = .returned (.tuple #[.int .u64 c.val, .int .i64 0]) ∧ w' = W) := ⟨fun W hW => by
        have h1 : Kd.C (Kd.int .u8) W (some (ad.add 9)) (beB c.val 8).length (beB c.val 8) := by rw [beB_length]; exact Kd.C_below hC2 hW
        have := get_calls W (some (ad.add 9)) (c' - 9) (beB c.val 8) h1 (beB_bytes _ _)
        rw [get_back (by omega) (by omega), beB_length] at this
        exact this⟩
      have HBW := Aside0.mk hbelow
      have x00 : wr.cell? ad = some (.int .u8 c.kind) := by rw [← x0']; unfold Addr.add; rfl
      have HNX := Aside0.mk hnx
      have hlk : k ≤ 48 := by have := HLL.out; omega
      have HTL : Aside0 ((l.take (k + 1)).length = k + 1 ∧ (l.take k).length = k) := ⟨by rw [List.length_take, List.length_take]; omega⟩
      obtain ⟨kd, ky, vl⟩ := c
      dsimp only at g1 g2 g3 g4 g5 g6 HG1 HG2 x0' x00 HNX
      have p1 : ¬ kd < 1 := by omega
      have p2 : ¬ 4 < kd := by omega
      have p3 : ¬ 4611686018427387904 < ky := by omega
      have p4 : IntKind.i64.wrap ky = ky := IntWalk.i64_in _ (by omega)
      have p5 : IntKind.i64.wrap kd = kd := IntWalk.i64_in _ (by omega)
      obtain ⟨A4, c4, e4, _, _⟩ := row_form HST.out.1.one.1
      rw [HTL.out.2] at e4
      subst e4
      have HST2 : Aside0 (St w (fun _ => False) (wr.alloc (.cells #[.int .i64 kd, .int .i64 ky, .int .u64 vl] 94)) [row 94 3 (.slice A4 k c4) k (chCells (l.take k)), pt wr.heap.size (.cells #[.int .i64 kd, .int .i64 ky, .int .u64 vl] 94 (0, 0))]) := ⟨by
        have := (HST.out.alloc (.cells #[.int .i64 kd, .int .i64 ky, .int .u64 vl] 94)).pick [1, 0] (by decide)
        unfold chRow at this
        rw [HTL.out.2] at this
        exact this⟩
      have hc16 : (17 : Int) ≤ (c' : Int) := by omega
      have hn17' : (17 : Int) ≤ (n : Int) := by omega
      clear hs1 hs2 hs3 hC hC1 hC2 hC3 hxn hB3 b0 b1 b2 b3 hxs hc hdr hnx x0 hbelow g1 g2 g3 g4 g5 g6 hi0 hz0 hz1 hz2 HB HST hn17
      go_wp2_with fail
      refine (HG1.out _ HBW.out).mono ?_
      rintro e W2 ⟨rfl, hw⟩
      have hw := hw.symm
      subst hw
      go_wp2_with fail
      refine (HG2.out _ HBW.out).mono ?_
      rintro e W2 ⟨rfl, hw⟩
      have hw := hw.symm
      subst hw
      go_wp2_with ((with_reducible refine gate_dst (N := 57) rfl ?_); at_builtin; have hone : ∀ u ∈ [Value.int .i64 kd, .int .i64 ky, .int .u64 vl], u.oneCell' = true := (by intro u hu; simp at hu; rcases hu with rfl | rfl | rfl <;> rfl); refine wp_app1 rfl (.tmp 47) (.tmp 56) 39 94 (.agg #[.int .i64 0, .int .i64 0, .int .u64 0]) 3 24 info_ch Try.underlying39 rfl (by decide) rfl (.slice A4 k c4) k (chCells (l.take k)) [.int .i64 kd, .int .i64 ky, .int .u64 vl] _ 94 rfl rfl HST2.out.1.head.1 (HST2.out.pick [1] (by decide)).heap rfl hone (by omega) (by decide) ?_; intro v5 w5 ho hg hn; have HST5 := Aside0.mk (HST2.out.grown ho hg hn); clear ho hg hn)
      refine ⟨⟨k + 1, n - 17, c' - 17, B3, by omega, rfl, HC3, ⟨?_⟩⟩, by simp [sliceLen]; omega⟩
      unfold chRow
      rw [HTL.out.1, HNX.out]
      exact HST5.out.pick [0] (by decide)
    · obtain rfl : k = l.length := by omega
      obtain rfl : n = 0 := by omega
      have hall : l.take l.length = l := List.take_length
      rw [hall] at HST
      clear hall HB hn17 hkl hk
      go_wp2_with fail
      go_ret2
      exact HST.out.ret ⟨_, rfl, rfl⟩
end Go.Proofs.Ytobljkhidgbeoaa.Oct
