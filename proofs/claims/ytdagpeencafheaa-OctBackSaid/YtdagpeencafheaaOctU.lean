import Derived.Test.YtdagpeencafheaaOctT
import Derived.Test.YtdagpeencafheaaSeq
/- oct.walk: the function that tells the parts. -/
namespace Go.Proofs.Ytdagpeencafheaa.Oct
open Go.RowKit Go.Proofs.YtdagpeencafheaaW.PrintWords Go.Proofs.Ytdagpeencafheaa.M
set_option linter.unusedVariables false
set_option linter.unusedSimpArgs false
attribute [local go_sem] Oper.semAt_some
/-- what a round is told: the place, the slice, its bytes ('none': the slice is nil) -/
abbrev XW := Nat × Value × Option (List Int)
abbrev encX (x : XW) : Array Value := #[.int .i64 (x.1 : Int), x.2.1]
def Rx (base : Nat) (x : XW) (W : World) : Prop := match x.2.2 with
  | none => x.2.1 = .slice none 0 0
  | some p => OB W base x.2.1 p ∧ x.2.1 ≠ .slice none 0 0
abbrev tell (x : XW) : Nat × Option (List Int) := (x.1, x.2.2)
/-- what lay below a mark, and one block, stand as they stood -/
def Kw (n0 Bs : Nat) (A B : World) : Prop := A.heap.size ≤ B.heap.size ∧ ∀ k, (k < n0 ∨ k = Bs) → k < A.heap.size → B.heap[k]? = A.heap[k]?
theorem Kw.trans {n0 Bs : Nat} {A B C : World} (h : Kw n0 Bs A B) (h2 : Kw n0 Bs B C) : Kw n0 Bs A C := ⟨Nat.le_trans h.1 h2.1, fun k hk hl => (h2.2 k hk (Nat.lt_of_lt_of_le hl h.1)).trans (h.2 k hk hl)⟩
theorem Kw.refl (n0 Bs : Nat) (A : World) : Kw n0 Bs A A := ⟨Nat.le_refl _, fun _ _ _ => rfl⟩
theorem Kw.below {n0 Bs : Nat} {A B : World} (h : Below A.heap.size A B) : Kw n0 Bs A B := ⟨h.size, fun k _ hl => h.block k hl⟩
theorem C_kw {n0 Bs : Nat} {A B : World} {a : Option Addr} {m : Nat} {xs : List Int} (h : Kd.C (Kd.int .u8) A a m xs) (ha : 0 < m → ∀ ad, a = some ad → ad.block < n0) (hk : Kw n0 Bs A B) : Kd.C (Kd.int .u8) B a m xs := by
  refine ⟨h.1, h.2.1, fun hn => ?_⟩
  obtain ⟨ad, e, hc⟩ := h.2.2 hn
  refine ⟨ad, e, fun j p hj => ?_⟩
  obtain ⟨c, hs, hr, hcell⟩ := hc j p hj
  refine ⟨c, hs, hr, fun i u hu => ?_⟩
  have hbk : ∀ j, (ad.add j).block = ad.block := fun j => by unfold Addr.add; split <;> rfl
  have hlt := World.block_lt_of_cell? A _ (hcell i u hu)
  rw [← hcell i u hu]
  rw [hbk] at hlt
  exact World.cell?_of_block (by rw [hbk]; exact hk.2 _ (.inl (ha hn ad e)) hlt)
theorem i64_orb {v x : Int} (h0 : 0 ≤ v) (h : v < 256) (hx0 : 0 ≤ x) (hx : x < 256) : Go.bits .or .i64 (v * 256) x = v * 256 + x :=
  bits_join .i64 63 (by decide) (fun n h0 h1 => by simp [IntKind.wrap, IntKind.bits, IntKind.signed]; omega) 8 _ _ (by omega) (by omega) (by omega) hx0 (by omega) (by omega)
theorem news_cells {W : World} {ad : Addr} {n : Nat} {xs : List Int} (h : Kd.C (Kd.int .u8) W (some ad) n xs) (hn : n = xs.length) : ∀ j u, (nums .u8 xs)[j]? = some u → W.cell? (ad.add j) = some u := fun j u hu => by
  have hj : j < xs.length := by have := (List.getElem?_eq_some_iff.1 hu).1; simpa [nums] using this
  obtain ⟨ad', e, hc⟩ := C_byte h (k := j) (by omega)
  injection e with e
  subst e
  rw [hc, ← hu]
  simp [nums, List.getElem?_eq_getElem hj, List.getD_eq_getElem?_getD]
set_option maxRecDepth 100000 in
set_option maxHeartbeats 8000000 in
theorem walk1_in (n : Nat) (hn : 1 ≤ n) (l Bs n0 base : Nat) (A : Option Addr) (c : Nat) (b : List Int) (hb : Bytes b) (hcap : b.length ≤ c) (hlen : b.length ≤ 1000000) (J Jx : List XW → World → Prop)
    (hJ : ∀ s A B, J s A → Below A.heap.size A B → J s B)
    (hY : ∀ pre x W1, J pre W1 → Rx base x W1 → YieldAt Fence.wide (n - 1) Try.prog l (encX x) W1 (fun e W' => (e = .returned (.bool true) ∧ J (pre ++ [x]) W' ∧ Kw n0 Bs W1 W') ∨ (e = .returned (.bool false) ∧ Jx (pre ++ [x]) W')))
    (W : World) (hbase : base ≤ W.heap.size) (hBs : W.heap[Bs]? = some (.cells #[.slice A b.length c] 22 (0, 0))) (hC : Kd.C (Kd.int .u8) W A b.length b) (hA : 0 < b.length → ∀ ad, A = some ad → ad.block < n0) (h0 : J [] W) :
    CallsIn Fence.wide n Try.prog 37 #[.func (.yield l) #[] #[], .pointer (some ⟨Bs, 0, none⟩)] W (fun e W' => (∃ v, e = .returned v) ∧ ((∃ xs, xs.map tell = walkL 0 b ∧ J xs W') ∨ ∃ pre, pre.map tell <+: walkL 0 b ∧ Jx pre W')) := by
  have HB := Aside0.mk hb
  have HC := Aside0.mk hC
  have HA := Aside0.mk hA
  have HBS := Aside0.mk hBs
  have HCAP := Aside0.mk hcap
  have HJ := Aside0.mk hJ
  have HY := Aside0.mk hY
  have H0 := Aside0.mk h0
  clear hb hC hA hBs hJ hY h0 hcap
  refine callsIn_of_wp Try.func37 rfl trivial ?_ rfl
  simp only [Try.ntmps37, List.size_toArray, List.length_cons, List.length_nil, Nat.reduceAdd, Nat.reduceSub, Array.replicate_succ, Array.replicate_zero, List.push_toArray, List.append_toArray, List.nil_append, List.cons_append]
  gi_wp2
  gi_loopw [3] (fun v3 wr => ∃ (i : Nat) (pre : List XW), i ≤ b.length ∧ v3 = .int .i64 i ∧ Aside0 (J pre wr) ∧ Aside0 (Kw n0 Bs W wr) ∧ Aside0 (pre.map tell ++ walkL i (b.drop i) = walkL 0 b)) (fun v _ => b.length - (intOf v).toNat)
  case atStart => exact ⟨0, [], Nat.zero_le _, rfl, H0, ⟨Kw.refl _ _ _⟩, ⟨rfl⟩⟩
  case round =>
    obtain ⟨i, pre, hi, rfl, HJs, HK, HW⟩ := hrel
    have hbs : wr.heap[Bs]? = some (.cells #[.slice A b.length c] 22 (0, 0)) := (HK.out.2 Bs (.inr rfl) (Array.getElem?_eq_some_iff.1 HBS.out).1).trans HBS.out
    have cs : wr.cell? ⟨Bs, 0, none⟩ = some (.slice A b.length c) := by simp [World.cell?, hbs]
    have HBR := Aside0.mk hbs
    clear hbs
    have hcase : i = b.length ∨ i + 1 = b.length ∨ i + 1 < b.length := by omega
    rcases hcase with rfl | h1 | h1
    · gi_wp2
      go_end0
      exact ⟨⟨_, rfl⟩, .inl ⟨pre, by have := HW.out; rw [List.drop_length, walkL_nil, List.append_nil] at this; exact this, HJs.out⟩⟩
    · have HE : Aside0 (walkL i (b.drop i) = [(i, none)]) := ⟨by rw [drop_one h1, walkL_one]⟩
      have h2 : (i : Int) < (b.length : Int) := by omega
      have e2 : (b.length : Int) - (i : Int) = 1 := by omega
      have e2' : IntKind.i64.wrap ((b.length : Int) - (i : Int)) = 1 := by rw [IntWalk.i64_in _ (by omega)]; omega
      clear h1
      obtain ⟨fn, tmps, assign, body, hy, hR⟩ := HY.out pre (i, .slice none 0 0, none) wr HJs.out rfl
      dsimp only [encX] at hy
      gi_wp2
      refine hR.mono ?_
      rintro e W3 (⟨rfl, hJ3, hk3⟩ | ⟨rfl, hJx3⟩)
      · clear hy hR
        gi_wp2
        refine bodyPost_ret (results_none rfl _ _ _) rfl ?_
        exact ⟨⟨_, rfl⟩, .inl ⟨pre ++ [(i, .slice none 0 0, none)], by rw [List.map_append, ← HW.out, HE.out]; rfl, hJ3⟩⟩
      · clear hy hR
        gi_wp2
        refine bodyPost_ret (results_none rfl _ _ _) rfl ?_
        exact ⟨⟨_, rfl⟩, .inr ⟨pre ++ [(i, .slice none 0 0, none)], ⟨[], by rw [List.append_nil, List.map_append, ← HW.out, HE.out]; rfl⟩, hJx3⟩⟩
    · have h2 : (i : Int) < (b.length : Int) := by omega
      have HCR := Aside0.mk (C_kw HC.out HA.out HK.out)
      obtain ⟨ad, rfl, hx⟩ := C_byte HCR.out (show i < b.length by omega)
      obtain ⟨ad', e, hy⟩ := C_byte HCR.out h1
      cases e
      have hx0 := HB.out.getD i
      have hy0 := HB.out.getD (i + 1)
      have HD := Aside0.mk (drop_two h1)
      obtain ⟨x, hxe⟩ : ∃ x, x = b.getD i 0 := ⟨_, rfl⟩
      obtain ⟨y, hye⟩ : ∃ y, y = b.getD (i + 1) 0 := ⟨_, rfl⟩
      rw [← hxe] at hx hx0 HD
      rw [← hye] at hy hy0 HD
      clear hxe hye
      obtain ⟨hxa, hxb⟩ := hx0
      obtain ⟨hya, hyb⟩ := hy0
      obtain ⟨N, hN⟩ : ∃ N : Nat, (N : Int) = 256 * x + y := ⟨(256 * x + y).toNat, by omega⟩
      have HN : Aside0 ((256 * x + y).toNat = N) := ⟨by omega⟩
      obtain ⟨L, hL⟩ : ∃ L : Nat, L = b.length - i := ⟨_, rfl⟩
      obtain ⟨a1, ha1⟩ : ∃ a1, a1 = i + 1 := ⟨_, rfl⟩
      rw [← ha1] at hy
      have hor : Go.bits .or .i64 (x * 256) y = (N : Int) := by rw [i64_orb hxa hxb hya hyb, hN]; omega
      have e1 : (i : Int) + 1 = (a1 : Int) := by omega
      have e1' : IntKind.i64.wrap ((i : Int) + 1) = (a1 : Int) := by rw [IntWalk.i64_in _ (by omega)]; omega
      have e2 : (b.length : Int) - (i : Int) = (L : Int) := by omega
      have e2' : IntKind.i64.wrap ((b.length : Int) - (i : Int)) = (L : Int) := by rw [IntWalk.i64_in _ (by omega)]; omega
      have e5 : IntKind.i64.wrap ((L : Int) - 2) = (L : Int) - 2 := IntWalk.i64_in _ (by omega)
      have b1 : (a1 : Int) < (b.length : Int) := by omega
      have b2 : (0 : Int) ≤ (a1 : Int) := by omega
      have b3 : (2 : Int) ≤ (L : Int) := by omega
      have b4 : ¬ (N : Int) < 0 := by omega
      have HF := Aside0.mk (And.intro hN (And.intro hL ha1))
      have hNB : N < 65536 := by omega
      by_cases hs : L < N + 2
      · have HE : Aside0 (walkL i (b.drop i) = [(i, none)]) := ⟨by rw [HD.out, walkL_short _ _ _ _ (by rw [HN.out, List.length_drop]; omega)]⟩
        have h4 : (L : Int) - 2 < (N : Int) := by omega
        clear hs hN hL ha1 h1
        gi_wp2
        refine wpIn_wide.2 ?_
        go_quiet (fail)
        obtain ⟨w2, hw2⟩ : ∃ w2, w2 = wr.drewN nq := ⟨_, rfl⟩
        have hb2 : Below wr.heap.size wr w2 := by rw [hw2]; exact pw_below_drewN (Below.refl _ _) _
        have HJ2 := Aside0.mk (HJ.out _ _ _ HJs.out hb2)
        have cs2 := (hb2.cell (World.block_lt_of_cell? _ _ cs)).trans cs
        rw [← hw2]
        clear hb2 hw2 hx hy cs hor
        obtain ⟨fn, tmps, assign, body, hy, hR⟩ := HY.out pre (i, .slice none 0 0, none) w2 HJ2.out rfl
        dsimp only [encX] at hy
        gi_wp2
        refine hR.mono ?_
        rintro e W3 (⟨rfl, hJ3, hk3⟩ | ⟨rfl, hJx3⟩)
        · clear hy hR
          gi_wp2
          refine bodyPost_ret (results_none rfl _ _ _) rfl ?_
          exact ⟨⟨_, rfl⟩, .inl ⟨pre ++ [(i, .slice none 0 0, none)], by rw [List.map_append, ← HW.out, HE.out]; rfl, hJ3⟩⟩
        · clear hy hR
          gi_wp2
          refine bodyPost_ret (results_none rfl _ _ _) rfl ?_
          exact ⟨⟨_, rfl⟩, .inr ⟨pre ++ [(i, .slice none 0 0, none)], ⟨[], by rw [List.append_nil, List.map_append, ← HW.out, HE.out]; rfl⟩, hJx3⟩⟩
      · have h4 : ¬ (L : Int) - 2 < (N : Int) := by omega
        have HNS : Aside0 (¬ (b.drop (i + 2)).length < N) := ⟨by rw [List.length_drop]; omega⟩
        have hA3' : i + 2 + N ≤ b.length := by omega
        clear hs hN hL ha1 h1
        gi_wp2
        refine wpIn_wide.2 ?_
        go_quiet (fail)
        obtain ⟨w2, hw2⟩ : ∃ w2, w2 = wr.drewN nq := ⟨_, rfl⟩
        have hb2 : Below wr.heap.size wr w2 := by rw [hw2]; exact pw_below_drewN (Below.refl _ _) _
        have HJ2 := Aside0.mk (HJ.out _ _ _ HJs.out hb2)
        have HK2 := Aside0.mk (HK.out.trans (Kw.below hb2))
        have cs2 := (hb2.cell (World.block_lt_of_cell? _ _ cs)).trans cs
        rw [← hw2]
        clear hb2 hw2 hx hy cs hor
        obtain ⟨a2, ha2⟩ : ∃ a2, a2 = i + 2 := ⟨_, rfl⟩
        obtain ⟨a3, ha3⟩ : ∃ a3, a3 = a2 + N := ⟨_, rfl⟩
        obtain ⟨m2, hm2⟩ : ∃ m2, m2 = 2 + N := ⟨_, rfl⟩
        have g1 : (i : Int) + 2 = (a2 : Int) := by omega
        have g2 : IntKind.i64.wrap ((i : Int) + 2) = (a2 : Int) := by rw [IntWalk.i64_in _ (by omega)]; omega
        have g3 : (a2 : Int) + (N : Int) = (a3 : Int) := by omega
        have g4 : IntKind.i64.wrap ((a2 : Int) + (N : Int)) = (a3 : Int) := by rw [IntWalk.i64_in _ (by omega)]; omega
        have g5 : (2 : Int) + (N : Int) = (m2 : Int) := by omega
        have g6 : IntKind.i64.wrap ((2 : Int) + (N : Int)) = (m2 : Int) := by rw [IntWalk.i64_in _ (by omega)]; omega
        have g7 : (i : Int) + (m2 : Int) = (a3 : Int) := by omega
        have g8 : IntKind.i64.wrap ((i : Int) + (m2 : Int)) = (a3 : Int) := by rw [IntWalk.i64_in _ (by omega)]; omega
        have hA3 : a3 ≤ b.length := by omega
        have hA2 : a2 ≤ a3 := by omega
        obtain ⟨i0, hi0, hz0, hz1, hz2⟩ := info_parts info_u8
        have hcut := cut_mid (P := Try.prog) 22 5 .i64 .i64 Try.underlying22 hi0 1 hz1 (some ad) b.length c (a2 : Int) (a3 : Int) (by omega) (by omega) (by omega) HCAP.out
        have hmid := Kd.C_mid (c := c) HC.out hA2 hA3 HCAP.out
        simp only [Int.toNat_natCast] at hcut
        have hsz : (Kd.int IntKind.u8).sz = 1 := rfl
        rw [hsz] at hmid
        obtain ⟨ad5, hA5⟩ : ∃ ad5, (if c = a2 then some ad else (some ad).map (·.add (a2 * 1))) = some ad5 := by split <;> exact ⟨_, rfl⟩
        rw [hA5] at hcut hmid
        have had5 : ad5.block < n0 := by
          have hbk : ∀ j, (ad.add j).block = ad.block := fun j => by unfold Addr.add; split <;> rfl
          have := HA.out (by omega) ad rfl
          split at hA5
          · injection hA5 with e; rw [← e]; exact this
          · injection hA5 with e; rw [← e, hbk]; exact this
        rw [show a3 - a2 = N by omega] at hcut
        obtain ⟨q, hq⟩ : ∃ q, q = (b.take a3).drop a2 := ⟨_, rfl⟩
        have HQ : Aside0 (q = (b.drop (i + 2)).take N ∧ q.length = N) := ⟨by
          have e : q = (b.drop (i + 2)).take N := by rw [hq, ha3, ha2, List.drop_take]; congr 1; omega
          refine ⟨e, ?_⟩
          rw [e, List.length_take]
          have := HNS.out
          omega⟩
        rw [← hq] at hmid
        have HMID := Aside0.mk (C_kw hmid (fun _ ad' e => by injection e with e; rw [← e]; exact had5) HK2.out)
        have HST : Aside0 (walkL i (b.drop i) = (i, some q) :: walkL a3 (b.drop a3)) := ⟨by
          have h := HNS.out
          rw [HD.out, walkL_step _ _ _ _ (by rw [HN.out]; exact h), HN.out, List.drop_drop, HQ.out.1]
          rw [show i + 2 + N = a3 by omega]⟩
        have HNX : Aside0 (N ≤ 1000000 ∧ a3 ≤ b.length ∧ i < a3) := ⟨by omega, hA3, by omega⟩
        have hHB2 : Aside0 (base ≤ w2.heap.size) := ⟨Nat.le_trans hbase HK2.out.1⟩
        have cs3 : (w2.alloc (.cells #[] 5)).cell? ⟨Bs, 0, none⟩ = some (.slice (some ad) b.length c) := ((below_alloc (Below.refl w2.heap.size w2) _).cell (World.block_lt_of_cell? _ _ cs2)).trans cs2
        clear hA5 hmid hsz had5 hq ha2 ha3 hm2 HF hA3' HC HCR
        gi_wp2_with (gi_at_builtin; refine wpListIn_append_own _ rfl (.tmp 43) (.tmp 51) 22 rfl w2.heap.size 5 i0 (.int .u8 0) 1 1 Try.underlying22 hi0 hz0 hz1 hz2 rfl (by decide) (.slice (some ⟨w2.heap.size, 0, none⟩) 0 0) 0 [] rfl (own_lit w2 w2.heap.size 5 .u8 [] (Nat.le_refl _) (by decide)) ad5 N (c - a2) (nums .u8 q) rfl (by simp [nums, HQ.out.2]) (news_cells (Kd.C_below HMID.out (below_alloc (Below.refl _ _) _)) rfl) (by intro u hu; obtain ⟨z, _, rfl⟩ := List.mem_map.1 hu; rfl) (by have := HNX.out; simp only [maxLen]; omega) (by have := HNX.out; omega) (by simp) ?_; intro v1 w4 ho1 hg1 hn1; have hb4 : Below w2.heap.size w2 w4 := ((below_alloc (Below.refl _ _) _).grown hg1 (below_alloc (Below.refl w2.heap.size w2) _).size (fun k e => by injection e with e; rw [← e]; exact Nat.le_refl _)); have hrx : Rx base (i, v1, some q) w4 := ⟨OB.lower (by unfold OB; rw [HQ.out.2]; simpa using ho1) hHB2.out, fun e => by have h := (hn1.1 e).1; cases h⟩; have HKB := Aside0.mk (Kw.below (n0 := n0) (Bs := Bs) hb4); obtain ⟨fn, tmps, assign, body, hy, hR⟩ := HY.out pre (i, v1, some q) w4 (HJ.out _ _ _ HJ2.out hb4) hrx; dsimp only [encX] at hy; clear ho1 hg1 hn1 hb4 hrx)
        refine hR.mono ?_
        rintro e W3 (⟨rfl, hJ3, hk3⟩ | ⟨rfl, hJx3⟩)
        · have HJ3 := Aside0.mk hJ3
          have HK3 := Aside0.mk ((HK2.out.trans HKB.out).trans hk3)
          clear hy hR hJ3 hk3 cs2 cs3 hcut hi0 hz0 hz1 hz2
          gi_wp2
          go_roundw
          case rel => exact ⟨a3, pre ++ [(i, v1, some q)], HNX.out.2.1, rfl, HJ3, HK3, ⟨by rw [← HW.out, HST.out, List.map_append]; simp [tell]⟩⟩
          case measure => simp [intOf]; have := HNX.out; omega
        · clear hy hR cs2 cs3 hcut hi0 hz0 hz1 hz2
          gi_wp2
          refine bodyPost_ret (results_none rfl _ _ _) rfl ?_
          exact ⟨⟨_, rfl⟩, .inr ⟨pre ++ [(i, v1, some q)], ⟨walkL a3 (b.drop a3), by rw [← HW.out, HST.out, List.map_append]; simp [tell]⟩, hJx3⟩⟩
end Go.Proofs.Ytdagpeencafheaa.Oct
