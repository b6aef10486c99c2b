import Derived.Test.YtilogpjbdemceaaRecsP
import Derived.Test.YtilogpjbdemceaaRecsI
namespace Go.Proofs.Ytilogpjbdemceaa.Oct
open Go.RowKit Go.Proofs.YtilogpjbdemceaaW.PrintWords Go.Proofs.Ytilogpjbdemceaa.M
set_option linter.unusedVariables false
set_option linter.unusedSimpArgs false
def RetXG (W : World) (x : Nat) (F : Nat → Prop) (g : Got) (L : Nat) (e : Ending) (W' : World) : Prop := ∃ v, e = .returned (.tuple #[v, .bool g.whole, .int .i64 g.err]) ∧ RefAt W' x g.st F L ∧ OB W' W.heap.size v g.out ∧ Kept W F W'
theorem xretg_err {w w' : World} {x L : Nat} {F : Nat → Prop} {s : SS} {n er : Int} (h : RefAt w x s F L) (hb : Below w.heap.size w w') (he : s.get n = ⟨s, [], false, er⟩) : RetXG w x F (s.get n) L (.returned (.tuple #[.slice none 0 0, .bool false, .int .i64 er])) w' := by
  rw [he]
  exact ⟨_, rfl, h.below hb, OB.nil _ _, Kept.of_below _ hb⟩
theorem getD_behind (pre held : List Int) (k : Nat) : (pre ++ held).getD (pre.length + k) 0 = held.getD k 0 := by
  simp [List.getD_eq_getElem?_getD, List.getElem?_append_right]
theorem xget_arg (w : World) (x L : Nat) (s : SS) (F : Nat → Prop) (n : Int) (h : RefAt w x s F L) (hn : n < 1) : Calls Try.prog 35 #[.pointer (some ⟨x, 0, none⟩), .int .i64 n] w (RetXG w x F (s.get n) L) := by
  have HT := Aside0.mk h
  have HE := Aside0.mk (SS.get_arg (s := s) hn)
  clear h
  go_enter Try.func35, Try.ntmps35
  go_wp2_with fail
  go_ret3
  exact xretg_err HT.out (Below.refl _ _) HE.out
set_option maxHeartbeats 2000000 in
theorem xget_few (w : World) (x L : Nat) (s : SS) (F : Nat → Prop) (n : Int) (h : RefAt w x s F L) (hL : L ≤ 140737488355328) (hn : ¬ n < 1) (hl : s.left = 0) (h2 : s.held.length < 2) : Calls Try.prog 35 #[.pointer (some ⟨x, 0, none⟩), .int .i64 n] w (RetXG w x F (s.get n) L) := by
  have HT := Aside0.mk h
  have HLL := Aside0.mk hL
  have hhd := SS.head_few hl h2
  obtain ⟨v, pre, hh, ho, hp, hk, hok, hlen⟩ := h
  obtain ⟨left, held, ended⟩ := s
  dsimp only at hh ho hl h2
  subst hl
  rw [show (pre.length : Int) + ((0 : Nat) : Int) = (pre.length : Int) by omega] at hh
  obtain ⟨n0, hn0⟩ : ∃ n0, n0 = pre.length := ⟨_, rfl⟩
  rw [← hn0] at hh
  have HH := Aside0.mk hh
  obtain ⟨⟨c0, c1, c2, c3⟩, f0, f1, f2, f3⟩ := four_cells hh
  have hl2 : (held.length : Int) < 2 := by omega
  have HHD := Aside0.mk hhd
  clear hh ho hp hk hok hlen hn0 hhd hL
  by_cases h0 : held.length = 0
  · have e0 : ((held.length : Int) == 0) = true := beq_iff_eq.2 (by omega)
    have H0 := Aside0.mk h0
    clear h0 h2
    cases ended
    · have HE : Aside0 (SS.get ⟨0, held, false⟩ n = ⟨⟨0, held, false⟩, [], false, (SS.mk 0 held false).lacks⟩) := ⟨SS.get_head hn HHD.out (SS.lacks_ne _)⟩
      go_enter Try.func35, Try.ntmps35
      go_wp2_with fail
      refine (xheld_calls _ x L _ F HT.out HLL.out).mono ?_
      rintro e w1 ⟨rfl, hb1⟩
      have HB1 := Aside0.mk hb1
      clear hb1 c0 c1 c2 c3 f0 f1 f2 f3
      obtain ⟨⟨c0, c1, c2, c3⟩, f0, f1, f2, f3⟩ := four_cells (blk_keep HH.out HB1.out)
      go_wp2_with fail
      refine (xheld_calls _ x L _ F (HT.out.below HB1.out) HLL.out).mono ?_
      rintro e w2 ⟨rfl, hb2⟩
      have HB2 := Aside0.mk (HB1.out.trans (hb2.mono HB1.out.size))
      clear hb2
      go_wp2_with fail
      refine (xfew_calls _ x L _ F (HT.out.below HB2.out)).mono ?_
      rintro e w3 ⟨rfl, rfl⟩
      go_wp2_with fail
      go_ret3
      exact xretg_err HT.out HB2.out HE.out
    · have HE : Aside0 (SS.get ⟨0, held, true⟩ n = ⟨⟨0, held, true⟩, [], false, 4⟩) := ⟨SS.get_head hn (by rw [HHD.out, H0.out]; rfl) (by decide)⟩
      go_enter Try.func35, Try.ntmps35
      go_wp2_with fail
      refine (xheld_calls _ x L _ F HT.out HLL.out).mono ?_
      rintro e w1 ⟨rfl, hb1⟩
      have HB1 := Aside0.mk hb1
      clear hb1 c0 c1 c2 c3 f0 f1 f2 f3
      obtain ⟨⟨c0, c1, c2, c3⟩, f0, f1, f2, f3⟩ := four_cells (blk_keep HH.out HB1.out)
      go_wp2_with fail
      go_ret3
      exact xretg_err HT.out HB1.out HE.out
  · have e0 : ((held.length : Int) == 0) = false := beq_eq_false_iff_ne.2 (by omega)
    have HE : Aside0 (SS.get ⟨0, held, ended⟩ n = ⟨⟨0, held, ended⟩, [], false, (SS.mk 0 held ended).lacks⟩) := ⟨SS.get_head hn (by rw [HHD.out]; rw [show (held.length == 0) = false from beq_eq_false_iff_ne.2 h0, Bool.and_false]; rfl) (SS.lacks_ne _)⟩
    clear h0 h2
    go_enter Try.func35, Try.ntmps35
    go_wp2_with fail
    refine (xheld_calls _ x L _ F HT.out HLL.out).mono ?_
    rintro e w1 ⟨rfl, hb1⟩
    have HB1 := Aside0.mk hb1
    clear hb1 c0 c1 c2 c3 f0 f1 f2 f3
    obtain ⟨⟨c0, c1, c2, c3⟩, f0, f1, f2, f3⟩ := four_cells (blk_keep HH.out HB1.out)
    go_wp2_with fail
    refine (xheld_calls _ x L _ F (HT.out.below HB1.out) HLL.out).mono ?_
    rintro e w2 ⟨rfl, hb2⟩
    have HB2 := Aside0.mk (HB1.out.trans (hb2.mono HB1.out.size))
    clear hb2
    go_wp2_with fail
    refine (xfew_calls _ x L _ F (HT.out.below HB2.out)).mono ?_
    rintro e w3 ⟨rfl, rfl⟩
    go_wp2_with fail
    go_ret3
    exact xretg_err HT.out HB2.out HE.out
theorem xget_close {w w1 : World} {x L a m : Nat} {F : Nat → Prop} {s : SS} {n : Int} {v v6 : Value} {pre : List Int}
    (hh : w.heap[x]? = some (.cells #[v, .int .i64 pre.length, .int .i64 ((pre.length : Int) + s.left), .bool s.ended] 60 (0, 0))) (ho : QB w 0 v (pre ++ s.held)) (hp : F x) (hk : ∀ k, v.ownBlock = some k → F k ∧ k ≠ x) (hok : s.ok) (hl : (pre ++ s.held).length ≤ L)
    (hge : s.get n = ⟨⟨a - m, s.held.drop m, s.ended⟩, s.held.take m, a - m == 0, 0⟩) (hm : m ≤ s.held.length) (hma : m ≤ a) (hv : OB w1 w.heap.size v6 (s.held.take m)) (hb : Below w.heap.size w w1) (k : Nat) (b : Bool) (eb : b = (a - m == 0)) (z1 z2 : Int) (e1 : z1 = (pre.length : Int) + m) (e2 : z2 = (pre.length : Int) + a) :
    RetXG w x F (s.get n) L (.returned (.tuple #[v6, .bool b, .int .i64 0])) (((w1.setCell ⟨x, 1, none⟩ (.int .i64 z1)).setCell ⟨x, 2, none⟩ (.int .i64 z2)).drewN k) := by
  have hgo := SS.get_ok hok n
  rw [hge] at hgo ⊢
  clear hge
  subst eb
  have hpl : x < w.heap.size := (Array.getElem?_eq_some_iff.1 hh).1
  have h1 := (hb.block x hpl).trans hh
  have h2 := heap_set (.int .i64 z2) (i := 2) (heap_set (.int .i64 z1) (i := 1) h1)
  have hg12 : w1.grownBy ((w1.setCell ⟨x, 1, none⟩ (.int .i64 z1)).setCell ⟨x, 2, none⟩ (.int .i64 z2)) (some x) := World.grownBy.trans (grown_set w1 x 1 _) (grown_set _ x 2 _)
  generalize ((w1.setCell ⟨x, 1, none⟩ (.int .i64 z1)).setCell ⟨x, 2, none⟩ (.int .i64 z2)) = w2 at *
  have hbd : Below w2.heap.size w2 (w2.drewN k) := below_draws w2 k
  have hgb : w1.grownBy (w2.drewN k) (some x) := World.grownBy.trans hg12 (grown_of_below hbd (some x))
  have hpl2 : x < w2.heap.size := Nat.lt_of_lt_of_le (Nat.lt_of_lt_of_le hpl hb.size) hg12.size
  refine ⟨v6, rfl, ⟨v, pre ++ s.held.take m, ?_, ?_, hp, hk, hgo, ?_⟩, ?_, ?_⟩
  · refine ((hbd.block x hpl2).trans h2).trans ?_
    have e3 : ((pre ++ s.held.take m).length : Int) = z1 := by rw [List.length_append, List.length_take, Nat.min_eq_left hm]; omega
    have e4 : z1 + ((a - m : Nat) : Int) = z2 := by omega
    dsimp only
    rw [e3, e4]
    rfl
  · dsimp only
    rw [List.append_assoc, List.take_append_drop]
    exact ((ho.below hb)).move (fun j e => hgb.block j (((ho.below hb)).block e).2 (fun e' => by injection e' with e'; exact (hk j e).2 e'))
  · dsimp only
    rw [List.append_assoc, List.take_append_drop]
    exact hl
  · exact own_move hv (fun k' e => hgb.block k' (own_lt hv k' e) (fun e' => by have := own_base hv k' e; injection e' with e'; omega))
  · exact (Kept.of_below F hb).trans (Kept.of_grown (F := F) hgb (fun j e => by injection e with e; subst e; exact hp)) (fun j _ h => h)
set_option maxHeartbeats 4000000 in
/-- inside a record -/
theorem xget_in (w : World) (x L a m : Nat) (n : Int) (held : List Int) (ended : Bool) (F : Nat → Prop) (h : RefAt w x ⟨a, held, ended⟩ F L) (hL : L ≤ 140737488355328) (hn : ¬ n < 1) (ha : 0 < a) (hm : (n = m ∧ m < a) ∨ ((a : Int) ≤ n ∧ m = a)) : Calls Try.prog 35 #[.pointer (some ⟨x, 0, none⟩), .int .i64 n] w (RetXG w x F (SS.get ⟨a, held, ended⟩ n) L) := by
  have HT := Aside0.mk h
  have HLL := Aside0.mk hL
  have HHD := Aside0.mk (SS.head_rec (s := ⟨a, held, ended⟩) (by show a ≠ 0; omega))
  dsimp only at HHD
  obtain ⟨v, pre, hh, ho, hp, hk, hok, hlen⟩ := h
  dsimp only at hh ho hok hlen
  obtain ⟨B, d, rfl, hd, hmx, hr⟩ := ho.form
  have HN : Aside0 ((pre ++ held).length = pre.length + held.length) := ⟨List.length_append⟩
  obtain ⟨N, hN⟩ : ∃ N, N = (pre ++ held).length := ⟨_, rfl⟩
  have HNN := Aside0.mk hN
  obtain ⟨n0, hn0⟩ : ∃ n0, n0 = pre.length := ⟨_, rfl⟩
  have HN0 := Aside0.mk hn0
  rw [← hN] at hh ho hk hd hlen HN hr
  rw [← hn0] at hh HN
  have HH := Aside0.mk hh
  have HO := Aside0.mk ho
  have HK := Aside0.mk hk
  have HP := Aside0.mk (And.intro hp hok)
  have HLN : Aside0 ((pre ++ held).length ≤ L) := ⟨by rw [← hN]; exact hlen⟩
  have HR := Aside0.mk hr
  obtain ⟨⟨c0, c1, c2, c3⟩, f0, f1, f2, f3⟩ := four_cells hh
  have a1 : (a : Int) ≤ 32767 := by have := hok.1; simp only at this; omega
  have a2 : (0 : Int) < (a : Int) := by omega
  have a3 : (held.length : Int) ≤ 65536 := by have := hok.2.1; simp only at this; omega
  have a4 : (n0 : Int) ≤ (N : Int) := by have := HN.out; omega
  have a5 : (N : Int) ≤ 140737488355328 := by omega
  have a6 : (N : Int) ≤ (d : Int) := by omega
  have a7 : ¬ (n0 : Int) + (a : Int) ≤ (n0 : Int) := by omega
  have HBW : Aside0 (Below w.heap.size w w) := ⟨Below.refl _ _⟩
  have HM : Aside0 (min n.toNat a = m ∧ 0 < m) := ⟨by omega⟩
  have m0 : (0 : Int) < (m : Int) := by have := HM.out.2; omega
  clear hh ho hp hk hok hr hd hmx hlen hN hn0 hL ha
  rcases hm with ⟨rfl, hma⟩ | ⟨hle, hma⟩
  · have hma' : (m : Int) < (a : Int) := by omega
    clear hma
    go_enter Try.func35, Try.ntmps35
    go_wp2_with fail
    refine (xheld_calls _ x L _ F (HT.out.below HBW.out) HLL.out).mono ?_
    rintro e w4 ⟨rfl, hb4⟩
    have HB4 := Aside0.mk (HBW.out.trans (hb4.mono HBW.out.size))
    clear hb4 c0 c1 c2 c3 f0 f1 f2 f3
    obtain ⟨⟨c0, c1, c2, c3⟩, f0, f1, f2, f3⟩ := four_cells (blk_keep HH.out HB4.out)
    by_cases hf : (held.length : Int) < (m : Int)
    · have HE : Aside0 (SS.get ⟨a, held, ended⟩ (m : Int) = ⟨⟨a, held, ended⟩, [], false, (SS.mk a held ended).lacks⟩) := ⟨SS.get_few (by omega) HHD.out (by show held.length < _; rw [HM.out.1]; omega)⟩
      go_wp2_with fail
      refine (xfew_calls _ x L _ F (HT.out.below HB4.out)).mono ?_
      rintro e w5 ⟨rfl, rfl⟩
      go_wp2_with fail
      go_ret3
      exact xretg_err HT.out HB4.out HE.out
    · have h5 : (m : Int) ≤ (held.length : Int) := by omega
      have h6 : (n0 : Int) + (m : Int) ≤ (N : Int) := by have := HN.out; omega
      have h7 : (n0 : Int) + (m : Int) ≤ (d : Int) := by omega
      have h8 : n0 ≠ d := by omega
      have HML : Aside0 (m ≤ held.length) := ⟨by omega⟩
      obtain ⟨zs, hz⟩ : ∃ zs, zs = held.take m := ⟨_, rfl⟩
      have hzl : zs.length = m := by rw [hz]; exact take_form HML.out
      obtain rfl : m = zs.length := hzl.symm
      obtain ⟨ad, hBad, _⟩ := C_byte HR.out (k := n0) (by omega)
      subst hBad
      have HZC : Aside0 (Kd.C (Kd.int .u8) w (some (ad.add n0)) zs.length zs) := ⟨by
        have h := HR.out
        rw [HNN.out] at h
        have h := C_right h
        rw [← HN0.out] at h
        have h := C_take h zs.length HML.out
        rw [← hz] at h
        exact h⟩
      have HZ := Aside0.mk hz
      obtain ⟨M, hM⟩ : ∃ M, M = n0 + zs.length := ⟨_, rfl⟩
      have HME := Aside0.mk hM
      have e1 : IntKind.i64.wrap ((n0 : Int) + (zs.length : Int)) = (M : Int) := by rw [IntWalk.i64_in _ (by omega)]; omega
      have e3 : (n0 : Int) + (zs.length : Int) = (M : Int) := by omega
      have e4 : IntKind.i64.wrap (M : Int) = (M : Int) := IntWalk.i64_in _ (by omega)
      have p0 : (0 : Int) ≤ (M : Int) := by omega
      have p1 : (M : Int) ≤ (d : Int) := by omega
      have p2 : n0 ≤ M := by omega
      have p3 : d ≠ n0 := by omega
      obtain ⟨wb, hwb⟩ : ∃ wb, wb = ((M : Int) == (n0 : Int) + (a : Int)) := ⟨_, rfl⟩
      have HWB : Aside0 (wb = (a - zs.length == 0)) := ⟨by rw [hwb]; apply Bool.eq_iff_iff.2; simp only [beq_iff_eq]; omega⟩
      have hwb' := hwb.symm
      clear hz hzl hwb
      clear hM h5 h6 h7 h8
      go_wp2_with fail
      go_still_tail 15, (by kernel_rfl)
      change wpList _ _ _ _ _ w4.drew
      obtain ⟨w5, hw5⟩ : ∃ w5, w5 = w4.drew := ⟨_, rfl⟩
      have HB5 : Aside0 (Below w.heap.size w w5) := ⟨by rw [hw5]; exact below_drew HB4.out⟩
      rw [← hw5]
      clear hw5 c0 c1 c2 c3 f0 f1 f2 f3
      obtain ⟨⟨c0, c1, c2, c3⟩, f0, f1, f2, f3⟩ := four_cells (blk_keep HH.out HB5.out)
      go_wp2_with fail
      rw [show M - n0 = zs.length by have := HME.out; omega]
      refine (copy_calls _ (some (ad.add n0)) _ zs (Kd.C_below HZC.out HB5.out) (by have := HML.out; omega)).mono ?_
      rintro e w6 ⟨v6, rfl, ho6, hb6⟩
      obtain ⟨A6, c6, rfl, _⟩ := ho6.reads
      have HO6 := Aside0.mk (ho6.lower HB5.out.size)
      have HB6 := Aside0.mk (HB5.out.trans (hb6.mono HB5.out.size))
      clear ho6 hb6 c0 c1 c2 c3 f0 f1 f2 f3
      obtain ⟨⟨c0, c1, c2, c3⟩, f0, f1, f2, f3⟩ := four_cells (blk_keep HH.out HB6.out)
      go_wp2_with fail
      go_quiet (fail)
      go_wp2_with fail
      go_ret3
      exact xget_close (by rw [← HN0.out]; exact HH.out) HO.out HP.out.1 HK.out HP.out.2 HLN.out (by rw [SS.get_good (by omega) HHD.out (by show ¬ held.length < _; rw [HM.out.1]; omega), HM.out.1]) HML.out (by omega) (by have e := HZ.out; dsimp only; rw [← e]; exact HO6.out) HB6.out _ wb HWB.out _ _ (by have := HME.out; have := HN0.out; omega) (by have := HME.out; have := HN0.out; omega)
  · obtain rfl : m = a := hma
    have hle' : ¬ n < (m : Int) := by omega
    go_enter Try.func35, Try.ntmps35
    go_wp2_with fail
    refine (xheld_calls _ x L _ F (HT.out.below HBW.out) HLL.out).mono ?_
    rintro e w4 ⟨rfl, hb4⟩
    have HB4 := Aside0.mk (HBW.out.trans (hb4.mono HBW.out.size))
    clear hb4 c0 c1 c2 c3 f0 f1 f2 f3
    obtain ⟨⟨c0, c1, c2, c3⟩, f0, f1, f2, f3⟩ := four_cells (blk_keep HH.out HB4.out)
    by_cases hf : (held.length : Int) < (m : Int)
    · have HE : Aside0 (SS.get ⟨m, held, ended⟩ n = ⟨⟨m, held, ended⟩, [], false, (SS.mk m held ended).lacks⟩) := ⟨SS.get_few (by omega) HHD.out (by show held.length < _; rw [HM.out.1]; omega)⟩
      go_wp2_with fail
      refine (xfew_calls _ x L _ F (HT.out.below HB4.out)).mono ?_
      rintro e w5 ⟨rfl, rfl⟩
      go_wp2_with fail
      go_ret3
      exact xretg_err HT.out HB4.out HE.out
    · have h5 : (m : Int) ≤ (held.length : Int) := by omega
      have h6 : (n0 : Int) + (m : Int) ≤ (N : Int) := by have := HN.out; omega
      have h7 : (n0 : Int) + (m : Int) ≤ (d : Int) := by omega
      have h8 : n0 ≠ d := by omega
      have HML : Aside0 (m ≤ held.length) := ⟨by omega⟩
      obtain ⟨zs, hz⟩ : ∃ zs, zs = held.take m := ⟨_, rfl⟩
      have hzl : zs.length = m := by rw [hz]; exact take_form HML.out
      obtain rfl : m = zs.length := hzl.symm
      obtain ⟨ad, hBad, _⟩ := C_byte HR.out (k := n0) (by omega)
      subst hBad
      have HZC : Aside0 (Kd.C (Kd.int .u8) w (some (ad.add n0)) zs.length zs) := ⟨by
        have h := HR.out
        rw [HNN.out] at h
        have h := C_right h
        rw [← HN0.out] at h
        have h := C_take h zs.length HML.out
        rw [← hz] at h
        exact h⟩
      have HZ := Aside0.mk hz
      obtain ⟨M, hM⟩ : ∃ M, M = n0 + zs.length := ⟨_, rfl⟩
      have HME := Aside0.mk hM
      have e1 : IntKind.i64.wrap ((n0 : Int) + (zs.length : Int)) = (M : Int) := by rw [IntWalk.i64_in _ (by omega)]; omega
      have e3 : (n0 : Int) + (zs.length : Int) = (M : Int) := by omega
      have e4 : IntKind.i64.wrap (M : Int) = (M : Int) := IntWalk.i64_in _ (by omega)
      have e6 : (M : Int) - (n0 : Int) = (zs.length : Int) := by omega
      have p0 : (0 : Int) ≤ (M : Int) := by omega
      have p1 : (M : Int) ≤ (d : Int) := by omega
      have p2 : n0 ≤ M := by omega
      have p3 : d ≠ n0 := by omega
      clear hz hzl
      clear hM h5 h6 h7 h8
      go_wp2_with fail
      go_still_tail 15, (by kernel_rfl)
      change wpList _ _ _ _ _ w4.drew
      obtain ⟨w5, hw5⟩ : ∃ w5, w5 = w4.drew := ⟨_, rfl⟩
      have HB5 : Aside0 (Below w.heap.size w w5) := ⟨by rw [hw5]; exact below_drew HB4.out⟩
      rw [← hw5]
      clear hw5 c0 c1 c2 c3 f0 f1 f2 f3
      obtain ⟨⟨c0, c1, c2, c3⟩, f0, f1, f2, f3⟩ := four_cells (blk_keep HH.out HB5.out)
      go_wp2_with fail
      rw [show M - n0 = zs.length by have := HME.out; omega]
      refine (copy_calls _ (some (ad.add n0)) _ zs (Kd.C_below HZC.out HB5.out) (by have := HML.out; omega)).mono ?_
      rintro e w6 ⟨v6, rfl, ho6, hb6⟩
      obtain ⟨A6, c6, rfl, _⟩ := ho6.reads
      have HO6 := Aside0.mk (ho6.lower HB5.out.size)
      have HB6 := Aside0.mk (HB5.out.trans (hb6.mono HB5.out.size))
      clear ho6 hb6 c0 c1 c2 c3 f0 f1 f2 f3
      obtain ⟨⟨c0, c1, c2, c3⟩, f0, f1, f2, f3⟩ := four_cells (blk_keep HH.out HB6.out)
      go_wp2_with fail
      go_quiet (fail)
      go_wp2_with fail
      go_ret3
      exact xget_close (by rw [← HN0.out]; exact HH.out) HO.out HP.out.1 HK.out HP.out.2 HLN.out (by rw [SS.get_good (by omega) HHD.out (by show ¬ held.length < _; rw [HM.out.1]; omega), HM.out.1]) HML.out (by omega) (by have e := HZ.out; dsimp only; rw [← e]; exact HO6.out) HB6.out _ true (by simp) _ _ (by have := HME.out; have := HN0.out; omega) (by have := HME.out; have := HN0.out; omega)
end Go.Proofs.Ytilogpjbdemceaa.Oct
