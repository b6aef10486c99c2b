import Derived.Test.YtilogpjbdemceaaPathO
/- The document's path: Take. -/
namespace Go.Proofs.Ytilogpjbdemceaa.Oct
open Go.RowKit Go.Proofs.YtilogpjbdemceaaW.PrintWords Go.Proofs.Ytilogpjbdemceaa.M
set_option linter.unusedVariables false
set_option linter.unusedSimpArgs false
theorem rtake_no (w : World) (p : Nat) (bag : Bag) (F : Nat → Prop) (i : Int) (h : RPathAt w p bag F) (hi : i < 0 ∨ (bag.length : Int) ≤ i) :
    Calls Try.prog 28 #[.pointer (some ⟨p, 0, none⟩), .int .i64 i] w (RetRTk w p F (takeB bag i)) := by
  have HT := Aside0.mk h
  have HI := Aside0.mk hi
  have HV : Aside0 (takeB bag i = (bag, [], 4)) := ⟨by unfold takeB; rw [there_no hi, if_neg (by decide)]⟩
  clear h hi
  go_enter Try.func28, Try.ntmps28
  go_wp2_with fail
  refine (rhas_no _ p bag F i HT.out HI.out).mono ?_
  rintro e w1 ⟨rfl, rfl⟩
  go_wp2_with fail
  go_ret2
  exact retrtk_no HT.out (Below.refl _ _) HV.out
set_option maxRecDepth 20000 in
set_option maxHeartbeats 8000000 in
theorem rtake_yes (w : World) (p : Nat) (bag : Bag) (F : Nat → Prop) (k : Nat) (h : RPathAt w p bag F) (hk : k < bag.length) :
    Calls Try.prog 28 #[.pointer (some ⟨p, 0, none⟩), .int .i64 k] w (RetRTk w p F (bag.eraseIdx k, bag.getD k [], 0)) := by
  have HT := Aside0.mk h
  obtain ⟨v, vs, hh, ho, he, hp, hkf, hu, hok⟩ := h
  have hl : bag.length ≤ 256 := hok.1
  have hk0 := hk
  have HA := Aside0.mk (And.intro hh (And.intro ho (And.intro he (And.intro hp (And.intro hkf (And.intro hu hok))))))
  have hvl : vs.length = bag.length := he.len
  have hkv : k < vs.length := by omega
  have hbk : bag[k]? = some (bag.getD k []) := by rw [List.getD_eq_getElem?_getD, List.getElem?_eq_getElem hk]; rfl
  obtain ⟨Au, du, hu1, _, _, _⟩ := (he.own k _ _ (List.getElem?_eq_getElem hkv) hbk).form
  have HUK : Aside0 (vs[k]? = some (.slice Au (bag.getD k []).length du)) := ⟨by rw [← hu1]; exact List.getElem?_eq_getElem hkv⟩
  obtain ⟨B, d, rfl, hd, hm⟩ := ho.form
  rcases ho.2 with ⟨e1, h0⟩ | ⟨g, off, cap, cur, e1, _⟩
  · omega
  injection e1 with e1 _ e3
  subst e1 e3
  obtain ⟨c0, f0⟩ := one_cell hh
  have ck := ho.at HUK.out
  have HPN : Aside0 (∀ W, Below w.heap.size w W → W.cell? ⟨p, 0, none⟩ = some (.slice (some ⟨g, off, none⟩) bag.length d) ∧ W.frozen? ⟨p, 0, none⟩ = false) := ⟨fun W hW => one_cell (blk_keep hh hW)⟩
  have HN1 : Aside0 (∀ j u, (vs.take k)[j]? = some u → w.cell? ⟨g, off + j, none⟩ = some u) := ⟨fun j u hj => by
    rw [List.getElem?_take] at hj
    split at hj
    · exact ho.at hj
    · cases hj⟩
  have HNW : Aside0 (∀ j u, (vs.drop (k + 1))[j]? = some u → w.cell? ⟨g, off + (k + 1) + j, none⟩ = some u) := ⟨fun j u hj => by
    rw [List.getElem?_drop] at hj
    have := ho.at hj
    rw [show off + (k + 1) + j = off + (k + 1 + j) by omega]
    exact this⟩
  obtain ⟨L, hL⟩ : ∃ L, L = (bag.getD k []).length := ⟨_, rfl⟩
  rw [← hL] at ck
  have HLL := Aside0.mk hL
  obtain ⟨n, hn⟩ : ∃ n, n = bag.length := ⟨_, rfl⟩
  obtain ⟨k1, hk1⟩ : ∃ k1, k1 = k + 1 := ⟨_, rfl⟩
  obtain ⟨m, hm1⟩ : ∃ m, m = n - k1 := ⟨_, rfl⟩
  have HM : Aside0 (k + m = (bag.eraseIdx k).length ∧ (vs.drop (k + 1)).length = m ∧ m + k ≤ 256 ∧ (vs.take k).length = k) := ⟨by rw [List.length_eraseIdx, if_pos hk, List.length_drop, List.length_take]; omega⟩
  rw [← hn] at c0 hk hl hd HPN
  have i0 : (0 : Int) ≤ (k : Int) := by omega
  have i1 : (k : Int) < (n : Int) := by omega
  have i2 : (k : Int) + 1 = (k1 : Int) := by omega
  have i3 : IntKind.i64.wrap ((k : Int) + 1) = (k1 : Int) := by rw [IntWalk.i64_in _ (by omega)]; omega
  have i3' : IntKind.i64.wrap (k1 : Int) = (k1 : Int) := IntWalk.i64_in _ (by omega)
  have i4 : (k1 : Int) ≤ (n : Int) := by omega
  have i5 : (n : Int) ≤ (d : Int) := by omega
  have i6 : (k : Int) ≤ (d : Int) := by omega
  have i7 : (0 : Int) ≤ (k1 : Int) := by omega
  have HK1 := Aside0.mk (And.intro hk1 hm1)
  have HKB := Aside0.mk hk0
  have HONE : Aside0 (∀ u ∈ vs, u.oneCell' = true) := ⟨fun u hu' => by
    obtain ⟨l, hq⟩ := HA.out.2.2.1.mem hu'
    obtain ⟨_, _, rfl, _⟩ := hq.form
    rfl⟩
  obtain ⟨i0', hi0', hz0', hz1', hz2'⟩ := info_parts info_row
  obtain ⟨A5, hA5⟩ : ∃ A5, A5 = (if d = k1 then (some ⟨g, off, none⟩ : Option Addr) else (some (⟨g, off, none⟩ : Addr)).map (·.add (k1 * 1))) := ⟨_, rfl⟩
  have hcut := cut_from (P := Try.prog) 25 26 .i64 Try.underlying25 hi0' 1 hz1' (some ⟨g, off, none⟩) n d (k1 : Int) (by omega) (by omega)
  simp only [Int.toNat_natCast] at hcut
  rw [← hA5, ← hm1] at hcut
  have HNX : Aside0 (∀ W, Below w.heap.size w W → (0 < m → ∃ a, A5 = some a ∧ ∀ j u, (vs.drop (k + 1))[j]? = some u → W.cell? (a.add j) = some u)) := ⟨fun W hW hm0 => by
    refine ⟨⟨g, off + k1, none⟩, ?_, fun j u hj => ?_⟩
    · rw [hA5, if_neg (by omega), Nat.mul_one]
      simp [Addr.add_lit]
    · rw [Addr.add_lit, hk1]
      exact (hW.cell (World.block_lt_of_cell? _ _ (HNW.out j u hj))).trans (HNW.out j u hj)⟩
  have hcut1 := cut_to (P := Try.prog) 25 26 .i64 Try.underlying25 hi0' (some ⟨g, off, none⟩) n d (k : Int) (by omega) (by omega) hd
  simp only [Int.toNat_natCast] at hcut1
  clear hk0 hh ho he hp hkf hu hok hvl hkv hbk hu1 hn hL hk1 hm1 hk hm hA5 hl hd
  go_enter Try.func28, Try.ntmps28
  go_wp2_with fail
  refine (rhas_yes _ p bag F k HT.out HKB.out).mono ?_
  rintro e w1 ⟨rfl, rfl⟩
  go_wp2_with (first
    | ((with_reducible refine gate_dst (N := 26) rfl ?_); at_builtin; refine wpList_append_at w1 rfl (.tmp 19) (.tmp 25) 25 rfl w1.heap.size 26 i0' (.slice none 0 0) 1 24 Try.underlying25 hi0' hz0' hz1' hz2' rfl Nat.zero_lt_one (.slice none 0 0) 0 [] rfl (OwnAt.nil _ _ _ _) (some ⟨g, off, none⟩) k d (vs.take k) rfl (by rw [HM.out.2.2.2, Nat.mul_one]) (fun _ => ⟨_, rfl, fun j u hj => by rw [Addr.add_lit]; exact HN1.out j u hj⟩) (fun u hu => HONE.out u (List.mem_of_mem_take hu)) (by have := HM.out.2.2.1; simp only [maxLen]; omega) (by have := HM.out.2.2.1; omega) (Nat.le_refl _) ?_; intro v1 w2 ho1 hg1 hn1; rw [Nat.zero_add, List.nil_append] at ho1; obtain ⟨A1, d1, rfl, _⟩ := ho1.form; have HO1 := Aside0.mk ho1; have HB2 : Aside0 (Below w1.heap.size w1 w2) := ⟨(Below.refl _ _).grown hg1 (Nat.le_refl _) (fun k e => nomatch e)⟩; have e0 := (HPN.out _ HB2.out).1; clear ho1 hg1 hn1)
    | ((with_reducible refine gate_dst (N := 36) rfl ?_); at_builtin; refine wpList_append_at w2 rfl (.tmp 28) (.tmp 35) 25 rfl w1.heap.size 26 i0' (.slice none 0 0) 1 24 Try.underlying25 hi0' hz0' hz1' hz2' rfl Nat.zero_lt_one (.slice A1 k d1) k (vs.take k) rfl HO1.out A5 m (d - k1) (vs.drop (k + 1)) rfl (by rw [HM.out.2.1, Nat.mul_one]) (HNX.out _ HB2.out) (fun u hu => HONE.out u (List.mem_of_mem_drop hu)) (by have := HM.out.2.2.1; simp only [maxLen]; omega) (by have := HM.out.2.2.1; omega) HB2.out.size ?_; intro v2 w3 ho2 hg2 hn2; obtain ⟨A2, d2, rfl, _⟩ := ho2.form; have HO2 := Aside0.mk ho2; have HB3 : Aside0 (Below w1.heap.size w1 w3) := ⟨HB2.out.grown hg2 HB2.out.size (fun k e => (HO1.out.block e).1)⟩; obtain ⟨e1, g1⟩ := HPN.out _ HB3.out; clear ho2 hg2 hn2))
  go_ret2
  rw [HLL.out]
  exact rtake_close HA.out.1 HA.out.2.1 HA.out.2.2.1 HA.out.2.2.2.1 HA.out.2.2.2.2.1 HA.out.2.2.2.2.2.1 HA.out.2.2.2.2.2.2 HKB.out HM.out.1 HUK.out (Below.refl _ _) (HO2.out.lower (Nat.zero_le _)) (grown_of_below HB3.out _) (fun k e => .inr (HO2.out.block e).1)
theorem rtake_calls (w : World) (p : Nat) (bag : Bag) (F : Nat → Prop) (i : Int) (h : RPathAt w p bag F) :
    Calls Try.prog 28 #[.pointer (some ⟨p, 0, none⟩), .int .i64 i] w (RetRTk w p F (takeB bag i)) := by
  by_cases hi : i < 0 ∨ (bag.length : Int) ≤ i
  · exact rtake_no w p bag F i h hi
  · obtain ⟨k, rfl⟩ := Int.eq_ofNat_of_zero_le (show 0 ≤ i by omega)
    have e : takeB bag (k : Int) = (bag.eraseIdx k, bag.getD k [], 0) := by unfold takeB; rw [there_yes hi, if_pos rfl, Int.toNat_natCast]
    rw [e]
    exact rtake_yes w p bag F k h (by omega)
end Go.Proofs.Ytilogpjbdemceaa.Oct
