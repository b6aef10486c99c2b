
import Derived.Test.YtobljkhidgbeoaaZ36
/- wal.walk: the function that tells the records. -/
namespace Go.Proofs.Ytobljkhidgbeoaa.Oct
open Go.RowKit Go.Proofs.YtobljkhidgbeoaaW.PrintWords Go.Proofs.Ytobljkhidgbeoaa.M
set_option linter.unusedVariables false
set_option linter.unusedSimpArgs false
attribute [local go_sem] Oper.semAt_some
set_option maxRecDepth 100000 in
set_option maxHeartbeats 16000000 in
theorem walk1_in (n : Nat) (hn : 1 ≤ n) (l Bs n0 base : Nat) (A : Option Addr) (c : Nat) (b : List Int) (hb : Bytes b) (hcap : b.length ≤ c) (hlen : b.length ≤ 4611686018427387904) (J Jx : List XR → World → Prop)
    (hJ : ∀ s A B, J s A → Below A.heap.size A B → J s B)
    (hY : ∀ pre x W1, J pre W1 → Rx base x W1 → Tx b pre x → YieldAt Fence.wide (n - 1) Try.prog l (encR x) W1 (fun e W' => (e = .returned (.bool true) ∧ J (pre ++ [x]) W' ∧ Kw n0 Bs W1 W') ∨ (e = .returned (.bool false) ∧ Jx (pre ++ [x]) W' ∧ Kw n0 Bs W1 W')))
    (W : World) (hbase : base ≤ W.heap.size) (hBs : W.heap[Bs]? = some (.cells #[.slice A b.length c] 45 (0, 0))) (hC : Kd.C (Kd.int .u8) W A b.length b) (hA : 0 < b.length → ∀ ad, A = some ad → ad.block < n0) (h0 : J [] W) :
    CallsIn Fence.wide n Try.prog 69 #[.func (.yield l) #[] #[], .pointer (some ⟨Bs, 0, none⟩)] W (fun e W' => (∃ v, e = .returned v) ∧ ((∃ xs, xs.map tell = readL 0 b ∧ J xs W') ∨ ∃ pre, pre.map tell <+: readL 0 b ∧ Jx pre W')) := by
  have HB := Aside0.mk hb
  have HC := Aside0.mk hC
  have HA := Aside0.mk hA
  have HBS := Aside0.mk hBs
  have HCAP := Aside0.mk hcap
  have HJ := Aside0.mk hJ
  have HY := Aside0.mk hY
  have H0 := Aside0.mk h0
  clear hb hC hA hBs hJ hY h0 hcap
  refine callsIn_of_wp Try.func69 rfl trivial ?_ rfl
  simp only [Try.ntmps69, List.size_toArray, List.length_cons, List.length_nil, Nat.reduceAdd, Nat.reduceSub, Array.replicate_succ, Array.replicate_zero, List.push_toArray, List.append_toArray, List.nil_append, List.cons_append]
  gi_wp2
  gi_loopw [3] (fun v3 wr => ∃ (i : Nat) (pre : List XR), i ≤ b.length ∧ v3 = .int .i64 i ∧ Aside0 (J pre wr) ∧ Aside0 (Kw n0 Bs W wr) ∧ Aside0 (pre.map tell ++ readL i (b.drop i) = readL 0 b)) (fun v _ => b.length - (intOf v).toNat)
  case atStart => exact ⟨0, [], Nat.zero_le _, rfl, H0, ⟨Kw.refl _ _ _⟩, ⟨rfl⟩⟩
  case round =>
    obtain ⟨i, pre, hi, rfl, HJs, HK, HW⟩ := hrel
    have hbs : wr.heap[Bs]? = some (.cells #[.slice A b.length c] 45 (0, 0)) := (HK.out.2 Bs (.inr rfl) (Array.getElem?_eq_some_iff.1 HBS.out).1).trans HBS.out
    have cs : wr.cell? ⟨Bs, 0, none⟩ = some (.slice A b.length c) := by simp [World.cell?, hbs]
    have HBR := Aside0.mk hbs
    clear hbs
    obtain ⟨L, hL⟩ : ∃ L : Nat, L = b.length - i := ⟨_, rfl⟩
    have l1 : (b.length : Int) - (i : Int) = (L : Int) := by omega
    have l2 : IntKind.i64.wrap ((b.length : Int) - (i : Int)) = (L : Int) := by rw [IntWalk.i64_in _ (by omega)]; omega
    by_cases h7 : L < 7
    · have HE : Aside0 (pre.map tell = readL 0 b) := ⟨by have := HW.out; rw [readL_no (isR_short (by omega)), List.append_nil] at this; exact this⟩
      have l3 : ¬ (7 : Int) ≤ (L : Int) := by omega
      gi_wp2
      go_end0
      exact ⟨⟨_, rfl⟩, .inl ⟨pre, HE.out, HJs.out⟩⟩
    have l3 : (7 : Int) ≤ (L : Int) := by omega
    have HCR := Aside0.mk (C_kw HC.out HA.out HK.out)
    obtain ⟨ad, rfl, hx⟩ := C_byte HCR.out (show i < b.length by omega)
    obtain ⟨ad', e, hy⟩ := C_byte HCR.out (show i + 1 < b.length by omega)
    cases e
    obtain ⟨ad', e, hk⟩ := C_byte HCR.out (show i + 2 < b.length by omega)
    cases e
    have hx0 := HB.out.getD i
    have hy0 := HB.out.getD (i + 1)
    have hk0 := HB.out.getD (i + 2)
    obtain ⟨N, hN⟩ : ∃ N : Nat, (N : Int) = 256 * b.getD i 0 + b.getD (i + 1) 0 := ⟨(256 * b.getD i 0 + b.getD (i + 1) 0).toNat, by unfold Byte at hx0 hy0; omega⟩
    have HD := Aside0.mk (isR_at (show i + 7 ≤ b.length by omega) hN)
    obtain ⟨x, hxe⟩ : ∃ x, x = b.getD i 0 := ⟨_, rfl⟩
    obtain ⟨y, hye⟩ : ∃ y, y = b.getD (i + 1) 0 := ⟨_, rfl⟩
    obtain ⟨k, hke⟩ : ∃ k, k = b.getD (i + 2) 0 := ⟨_, rfl⟩
    rw [← hxe] at hx hx0 hN
    rw [← hye] at hy hy0 hN
    rw [← hke] at hk hk0 HD
    clear hxe hye hke
    obtain ⟨hxa, hxb⟩ := hx0
    obtain ⟨hya, hyb⟩ := hy0
    obtain ⟨hka, hkb⟩ := hk0
    obtain ⟨a1, ha1⟩ : ∃ a1, a1 = i + 1 := ⟨_, rfl⟩
    obtain ⟨a2, ha2⟩ : ∃ a2, a2 = i + 2 := ⟨_, rfl⟩
    obtain ⟨a3, ha3⟩ : ∃ a3, a3 = i + 3 := ⟨_, rfl⟩
    obtain ⟨e4, he4⟩ : ∃ e4, e4 = a3 + N := ⟨_, rfl⟩
    obtain ⟨e5, he5⟩ : ∃ e5, e5 = e4 + 4 := ⟨_, rfl⟩
    rw [← ha1] at hy
    rw [← ha2] at hk
    rw [← ha3, ← he4, ← he5] at HD
    have hor : Go.bits .or .i64 (x * 256) y = (N : Int) := by rw [i64_orb hxa hxb hya hyb, hN]; omega
    have hNB : N < 65536 := by omega
    have HF : Aside0 (L = b.length - i ∧ a1 = i + 1 ∧ a2 = i + 2 ∧ a3 = i + 3 ∧ e4 = a3 + N ∧ e5 = e4 + 4 ∧ i + 7 ≤ b.length) := ⟨hL, ha1, ha2, ha3, he4, he5, by omega⟩
    have f1 : (i : Int) + 1 = (a1 : Int) := by omega
    have f1' : IntKind.i64.wrap ((i : Int) + 1) = (a1 : Int) := by rw [IntWalk.i64_in _ (by omega)]; omega
    have f2 : (i : Int) + 2 = (a2 : Int) := by omega
    have f2' : IntKind.i64.wrap ((i : Int) + 2) = (a2 : Int) := by rw [IntWalk.i64_in _ (by omega)]; omega
    have f3 : (i : Int) + 3 = (a3 : Int) := by omega
    have f3' : IntKind.i64.wrap ((i : Int) + 3) = (a3 : Int) := by rw [IntWalk.i64_in _ (by omega)]; omega
    have f4 : (a3 : Int) + (N : Int) = (e4 : Int) := by omega
    have f4' : IntKind.i64.wrap ((a3 : Int) + (N : Int)) = (e4 : Int) := by rw [IntWalk.i64_in _ (by omega)]; omega
    have f5 : (e4 : Int) + 4 = (e5 : Int) := by omega
    have f5' : IntKind.i64.wrap ((e4 : Int) + 4) = (e5 : Int) := by rw [IntWalk.i64_in _ (by omega)]; omega
    have f6 : (e5 : Int) - 4 = (e4 : Int) := by omega
    have f6' : IntKind.i64.wrap ((e5 : Int) - 4) = (e4 : Int) := by rw [IntWalk.i64_in _ (by omega)]; omega
    have vk : IntKind.i64.wrap k = k := IntWalk.i64_in _ (by omega)
    have v2 : IntKind.i64.wrap (a2 : Int) = (a2 : Int) := IntWalk.i64_in _ (by omega)
    have v3 : IntKind.i64.wrap (a3 : Int) = (a3 : Int) := IntWalk.i64_in _ (by omega)
    have v4 : IntKind.i64.wrap (e4 : Int) = (e4 : Int) := IntWalk.i64_in _ (by omega)
    have b0 : (i : Int) < (b.length : Int) := by omega
    have b1 : (a1 : Int) < (b.length : Int) := by omega
    have b2 : (a2 : Int) < (b.length : Int) := by omega
    have b4 : ¬ (N : Int) < 0 := by omega
    clear ha1 ha2 ha3 he4 he5 hL hN h7
    have hNO : ¬ (k ≠ 0 ∧ N ≤ 1024 ∧ e5 ≤ b.length) → Aside0 (pre.map tell = readL 0 b) := fun h => ⟨by
      have h1 := HW.out
      rw [readL_no (fun h2 => h (by have := HD.out.2.1.1 h2; exact ⟨this.1, this.2.1, this.2.2.1⟩)), List.append_nil] at h1
      exact h1⟩
    gi_wp2
    refine wpIn_wide.2 ?_
    go_quiet (fail)
    obtain ⟨w2, hw2⟩ : ∃ w2, w2 = wr.drewN nq := ⟨_, rfl⟩
    have hb2 : Below wr.heap.size wr w2 := by rw [hw2]; exact pw_below_drewN (Below.refl _ _) _
    have HJ2 := Aside0.mk (HJ.out _ _ _ HJs.out hb2)
    have HK2 := Aside0.mk (HK.out.trans (Kw.below hb2))
    have HC2 := Aside0.mk (Kd.C_below HCR.out hb2)
    have cs2 := (hb2.cell (World.block_lt_of_cell? _ _ cs)).trans cs
    have hk2 := (hb2.cell (World.block_lt_of_cell? _ _ hk)).trans hk
    rw [← hw2]
    clear hb2 hw2 hx hy hk cs hor l1 l2 l3 HJs HK HCR HBR
    by_cases hz : k = 0
    · have HE := hNO (by omega)
      have hq : (k == 0) = true := by simp [hz]
      clear hNO hz
      gi_wp2
      refine bodyPost_ret (results_none rfl _ _ _) rfl ?_
      exact ⟨⟨_, rfl⟩, .inl ⟨pre, HE.out, HJ2.out⟩⟩
    have hz' : (k == 0) = false := by simp [hz]
    by_cases hN2 : 1024 < (N : Int)
    · have HE := hNO (by omega)
      clear hNO hz
      gi_wp2
      refine bodyPost_ret (results_none rfl _ _ _) rfl ?_
      exact ⟨⟨_, rfl⟩, .inl ⟨pre, HE.out, HJ2.out⟩⟩
    by_cases he : (b.length : Int) < (e5 : Int)
    · have HE := hNO (by omega)
      clear hNO hz
      gi_wp2
      refine bodyPost_ret (results_none rfl _ _ _) rfl ?_
      exact ⟨⟨_, rfl⟩, .inl ⟨pre, HE.out, HJ2.out⟩⟩
    obtain ⟨i0, hi0, hz0, hz1, hz2⟩ := info_parts info_u8
    have hle : e5 ≤ b.length := by omega
    have hke : k ≠ 0 := hz
    have hNe : N ≤ 1024 := by omega
    have hIR := HD.out.2.1
    obtain ⟨q, hq⟩ : ∃ q, q = (b.take e5).drop e4 := ⟨_, rfl⟩
    obtain ⟨p, hp⟩ : ∃ p, p = (b.take e4).drop i := ⟨_, rfl⟩
    obtain ⟨z, hzz⟩ : ∃ z, z = (b.take e4).drop a3 := ⟨_, rfl⟩
    have hF := HF.out
    obtain ⟨m6, hm6⟩ : ∃ m6, m6 = e4 - i := ⟨_, rfl⟩
    obtain ⟨ad5, c5, hq1, hq2, hq3, hq4⟩ := piece rfl HC2.out HCAP.out (show e4 ≤ e5 by omega) hle (show 4 = e5 - e4 by omega)
    obtain ⟨ad6, c6, hp1, hp2, hp3, hp4⟩ := piece rfl HC2.out HCAP.out (show i ≤ e4 by omega) (show e4 ≤ b.length by omega) hm6
    obtain ⟨ad7, c7, hx1, hx2, hx3, hx4⟩ := piece rfl HC2.out HCAP.out (show a3 ≤ e4 by omega) (show e4 ≤ b.length by omega) (show N = e4 - a3 by omega)
    have hcut5 := cut_mid (P := Try.prog) 45 5 .i64 .i64 Try.underlying45 hi0 1 hz1 (some ad) b.length c (e4 : Int) (e5 : Int) (by omega) (by omega) (by omega) HCAP.out
    have hcut6 := cut_mid (P := Try.prog) 45 5 .i64 .i64 Try.underlying45 hi0 1 hz1 (some ad) b.length c (i : Int) (e4 : Int) (by omega) (by omega) (by omega) HCAP.out
    have hcut7 := cut_mid (P := Try.prog) 45 5 .i64 .i64 Try.underlying45 hi0 1 hz1 (some ad) b.length c (a3 : Int) (e4 : Int) (by omega) (by omega) (by omega) HCAP.out
    simp only [Int.toNat_natCast] at hcut5 hcut6 hcut7
    rw [hq3, hq4, show e5 - e4 = 4 by omega] at hcut5
    rw [hp3, hp4, ← hm6] at hcut6
    rw [hx3, hx4, show e4 - a3 = N by omega] at hcut7
    rw [← hq] at hq1 hq2
    rw [← hp] at hp1 hp2
    rw [← hzz] at hx1 hx2
    have hbq : Bytes q := by rw [hq]; exact (HB.out.take _).drop _
    have hbp : Bytes p := by rw [hp]; exact (HB.out.take _).drop _
    have hG := get_calls w2 (some ad5) c5 q (by rw [hq1]; exact hq2) hbq
    have hgr := getF_range hbq 4 (by omega)
    rw [List.take_of_length_le (by omega)] at hgr
    rw [show getM q = (getF q, 0) by unfold getM; rw [if_neg (by omega)], hq1] at hG
    obtain ⟨G, hGe⟩ : ∃ G, G = getF q := ⟨_, rfl⟩
    obtain ⟨S, hSe⟩ : ∃ S, S = sumOf p := ⟨_, rfl⟩
    rw [← hGe] at hG hgr
    have HS : Aside0 (∀ W', Below w2.heap.size w2 W' → Calls Try.prog 57 #[.slice (some ad6) m6 c6] W' fun e w' => e = .returned (.int .u32 S) ∧ w' = W') := ⟨fun W' hW' => by
      have := sum_calls W' (some ad6) c6 p (by rw [hp1]; exact Kd.C_below hp2 hW') hbp
      rw [hp1, ← hSe] at this
      exact this⟩
    have HCLN : Aside0 (∀ W', Below w2.heap.size w2 W' → Calls Try.prog 46 #[.slice (some ad7) N c7] W' fun e w' => ∃ v, e = .returned v ∧ OB w' W'.heap.size v z ∧ Below W'.heap.size W' w') := ⟨fun W' hW' => by
      have := clone_calls W' (some ad7) c7 z (by rw [hx1]; exact Kd.C_below hx2 hW') (by omega)
      rw [hx1] at this
      exact this⟩
    have HG := Aside0.mk hG
    have HIR : Aside0 ((G ≠ S → pre.map tell = readL 0 b) ∧ (G = S → pre.map tell ++ (e5, k, z) :: readL e5 (b.drop e5) = readL 0 b)) := ⟨by
      rw [← hq, ← hp, ← hGe, ← hSe] at hIR
      refine ⟨fun hne => ?_, fun heq => ?_⟩
      · have h1 := HW.out
        rw [readL_no (fun h2 => hne (hIR.1 h2).2.2.2), List.append_nil] at h1
        exact h1
      · have h1 := HW.out
        rw [readL_yes (hIR.2 ⟨hke, hNe, hle, heq⟩), HD.out.1, HD.out.2.2, ← hzz, List.drop_drop, show i + (7 + N) = e5 by omega] at h1
        exact h1⟩
    have HAD : Aside0 (ad.block < n0) := ⟨HA.out (by omega) ad rfl⟩
    have HLT : Aside0 (e5 ≤ b.length ∧ i < e5 ∧ base ≤ w2.heap.size) := ⟨hle, by omega, Nat.le_trans hbase HK2.out.1⟩
    obtain ⟨g0, g1⟩ := hgr
    have gw : IntKind.u32.wrap G = G := IntWalk.u32_in _ (by omega)
    clear hNO hz hIR hq hp hzz hF hm6 hq1 hq2 hq3 hq4 hp1 hp2 hp3 hp4 hx1 hx2 hx3 hx4 hG hGe hSe hbq hbp g1 hi0 hz0 hz1 hz2 HW HD HF
    have hfn1 : Fence.wide.fn 39 := trivial
    have hfn2 : Fence.wide.fn 57 := trivial
    have hfn3 : Fence.wide.fn 46 := trivial
    by_cases hGS : G = S
    · have hne : (G != S) = false := by simp [hGS]
      have HST := Aside0.mk (HIR.out.2 hGS)
      have HTX : ∀ v, Aside0 (Tx b pre (e5, k, v, z)) := fun v => ⟨⟨readL e5 (b.drop e5), by rw [← HST.out, List.map_append, List.append_assoc]; rfl⟩⟩
      clear hGS HIR
      gi_wp2_with (gi_at_call 39; refine (callsIn_wide.2 HG.out).mono ?_; rintro e w' ⟨rfl, hw'⟩; have hw' := hw'.symm; subst hw')
      clear HB HC HA HBS HCAP H0 HC2 HG hbase hlen f1 f1' f2' f3' f4 f4' f5 f5' b0 b1 hcut5 hxa hxb hya hyb hka hkb hNB hN2 he g0 hle hke hNe
      refine region_S (fun W' => W'.cell? ⟨Bs, 0, none⟩ = some (.slice (some ad) b.length c) ∧ W'.cell? (ad.add a2) = some (.int .u8 k)) (by kernel_rfl) ?_
      have hS2 : w2.drew.cell? ⟨Bs, 0, none⟩ = some (.slice (some ad) b.length c) ∧ w2.drew.cell? (ad.add a2) = some (.int .u8 k) := ⟨cs2, hk2⟩
      refine anyS_at (i := 0) (d := 56) (v := .int .u64 G) rfl rfl rfl (by kernel_rfl) (by kernel_rfl) (by kernel_rfl) (fun _ _ _ h => h) (fun _ => rfl) rfl hS2 (by intro W' hW'; obtain ⟨q1, q2⟩ := hW'; go_simp) ?_
      dsimp only
      simp only [List.setIfInBounds_toArray, List.set_cons_zero, List.set_cons_succ]
      refine anyS_at (i := 1) (d := 57) (v := .int .u32 G) rfl rfl rfl (by kernel_rfl) (by kernel_rfl) (by kernel_rfl) (fun _ _ _ h => h) (fun _ => rfl) rfl hS2 (by intro W' hW'; obtain ⟨q1, q2⟩ := hW'; go_simp) ?_
      dsimp only
      simp only [List.setIfInBounds_toArray, List.set_cons_zero, List.set_cons_succ]
      refine anyS_at (i := 2) (d := 58) (v := .slice (some ad) b.length c) rfl rfl rfl (by kernel_rfl) (by kernel_rfl) (by kernel_rfl) (fun _ _ _ h => h) (fun _ => rfl) rfl hS2 (by intro W' hW'; obtain ⟨q1, q2⟩ := hW'; go_simp) ?_
      dsimp only
      simp only [List.setIfInBounds_toArray, List.set_cons_zero, List.set_cons_succ]
      refine anyS_at (i := 3) (d := 59) (v := .int .i64 (i : Int)) rfl rfl rfl (by kernel_rfl) (by kernel_rfl) (by kernel_rfl) (fun _ _ _ h => h) (fun _ => rfl) rfl hS2 (by intro W' hW'; obtain ⟨q1, q2⟩ := hW'; go_simp) ?_
      dsimp only
      simp only [List.setIfInBounds_toArray, List.set_cons_zero, List.set_cons_succ]
      refine anyS_at (i := 4) (d := 60) (v := .int .i64 (e5 : Int)) rfl rfl rfl (by kernel_rfl) (by kernel_rfl) (by kernel_rfl) (fun _ _ _ h => h) (fun _ => rfl) rfl hS2 (by intro W' hW'; obtain ⟨q1, q2⟩ := hW'; go_simp) ?_
      dsimp only
      simp only [List.setIfInBounds_toArray, List.set_cons_zero, List.set_cons_succ]
      refine anyS_at (i := 5) (d := 61) (v := .int .i64 (e4 : Int)) rfl rfl rfl (by kernel_rfl) (by kernel_rfl) (by kernel_rfl) (fun _ _ _ h => h) (fun _ => rfl) rfl hS2 (by intro W' hW'; obtain ⟨q1, q2⟩ := hW'; go_simp) ?_
      dsimp only
      simp only [List.setIfInBounds_toArray, List.set_cons_zero, List.set_cons_succ]
      refine anyS_at (i := 6) (d := 62) (v := .slice (some ad6) m6 c6) rfl rfl rfl (by kernel_rfl) (by kernel_rfl) (by kernel_rfl) (fun _ _ _ h => h) (fun _ => rfl) rfl hS2 (by intro W' hW'; obtain ⟨q1, q2⟩ := hW'; go_simp) ?_
      dsimp only
      simp only [List.setIfInBounds_toArray, List.set_cons_zero, List.set_cons_succ]
      refine anyS_one (i := 7) (by kernel_rfl) rfl (fun K' hK => ?_)
      have HKA := Aside0.mk hK
      clear hK
      go_simp
      gi_wp2_with (gi_at_call 57; refine (callsIn_wide.2 (HS.out _ (below_drew (Below.refl _ _)))).mono ?_; rintro e w' ⟨rfl, hw'⟩; subst hw')
      refine HKA.out _ _ hS2 ?_
      clear HKA K'
      refine anyS_at (i := 8) (d := 64) (v := .bool false) rfl rfl rfl (by kernel_rfl) (by kernel_rfl) (by kernel_rfl) (fun _ _ _ h => h) (fun _ => rfl) rfl hS2 (by intro W' hW'; obtain ⟨q1, q2⟩ := hW'; go_simp) ?_
      dsimp only
      simp only [List.setIfInBounds_toArray, List.set_cons_zero, List.set_cons_succ]
      refine anyS_at (i := 9) (d := 65) (v := .bool false) rfl rfl rfl (by kernel_rfl) (by kernel_rfl) (by kernel_rfl) (fun _ _ _ h => h) (fun _ => rfl) rfl hS2 (by intro W' hW'; obtain ⟨q1, q2⟩ := hW'; go_simp) ?_
      dsimp only
      simp only [List.setIfInBounds_toArray, List.set_cons_zero, List.set_cons_succ]
      refine anyS_at (i := 10) (d := 66) (v := .func (.yield l) #[] #[]) rfl rfl rfl (by kernel_rfl) (by kernel_rfl) (by kernel_rfl) (fun _ _ _ h => h) (fun _ => rfl) rfl hS2 (by intro W' hW'; obtain ⟨q1, q2⟩ := hW'; go_simp) ?_
      dsimp only
      simp only [List.setIfInBounds_toArray, List.set_cons_zero, List.set_cons_succ]
      refine anyS_at (i := 11) (d := 67) (v := .int .i64 (e5 : Int)) rfl rfl rfl (by kernel_rfl) (by kernel_rfl) (by kernel_rfl) (fun _ _ _ h => h) (fun _ => rfl) rfl hS2 (by intro W' hW'; obtain ⟨q1, q2⟩ := hW'; go_simp) ?_
      dsimp only
      simp only [List.setIfInBounds_toArray, List.set_cons_zero, List.set_cons_succ]
      refine anyS_at (i := 12) (d := 68) (v := .slice (some ad) b.length c) rfl rfl rfl (by kernel_rfl) (by kernel_rfl) (by kernel_rfl) (fun _ _ _ h => h) (fun _ => rfl) rfl hS2 (by intro W' hW'; obtain ⟨q1, q2⟩ := hW'; go_simp) ?_
      dsimp only
      simp only [List.setIfInBounds_toArray, List.set_cons_zero, List.set_cons_succ]
      refine anyS_at (i := 13) (d := 69) (v := .int .i64 (i : Int)) rfl rfl rfl (by kernel_rfl) (by kernel_rfl) (by kernel_rfl) (fun _ _ _ h => h) (fun _ => rfl) rfl hS2 (by intro W' hW'; obtain ⟨q1, q2⟩ := hW'; go_simp) ?_
      dsimp only
      simp only [List.setIfInBounds_toArray, List.set_cons_zero, List.set_cons_succ]
      refine anyS_at (i := 14) (d := 70) (v := .int .i64 (a2 : Int)) rfl rfl rfl (by kernel_rfl) (by kernel_rfl) (by kernel_rfl) (fun _ _ _ h => h) (fun _ => rfl) rfl hS2 (by intro W' hW'; obtain ⟨q1, q2⟩ := hW'; go_simp) ?_
      dsimp only
      simp only [List.setIfInBounds_toArray, List.set_cons_zero, List.set_cons_succ]
      refine anyS_at (i := 15) (d := 71) (v := .pointer (some (ad.add a2))) rfl rfl rfl (by kernel_rfl) (by kernel_rfl) (by kernel_rfl) (fun _ _ _ h => h) (fun _ => rfl) rfl hS2 (by intro W' hW'; obtain ⟨q1, q2⟩ := hW'; go_simp) ?_
      dsimp only
      simp only [List.setIfInBounds_toArray, List.set_cons_zero, List.set_cons_succ]
      refine anyS_at (i := 16) (d := 72) (v := .int .u8 k) rfl rfl rfl (by kernel_rfl) (by kernel_rfl) (by kernel_rfl) (fun _ _ _ h => h) (fun _ => rfl) rfl hS2 (by intro W' hW'; obtain ⟨q1, q2⟩ := hW'; go_simp) ?_
      dsimp only
      simp only [List.setIfInBounds_toArray, List.set_cons_zero, List.set_cons_succ]
      refine anyS_at (i := 17) (d := 73) (v := .int .i64 k) rfl rfl rfl (by kernel_rfl) (by kernel_rfl) (by kernel_rfl) (fun _ _ _ h => h) (fun _ => rfl) rfl hS2 (by intro W' hW'; obtain ⟨q1, q2⟩ := hW'; go_simp) ?_
      dsimp only
      simp only [List.setIfInBounds_toArray, List.set_cons_zero, List.set_cons_succ]
      refine anyS_at (i := 18) (d := 74) (v := .slice (some ad) b.length c) rfl rfl rfl (by kernel_rfl) (by kernel_rfl) (by kernel_rfl) (fun _ _ _ h => h) (fun _ => rfl) rfl hS2 (by intro W' hW'; obtain ⟨q1, q2⟩ := hW'; go_simp) ?_
      dsimp only
      simp only [List.setIfInBounds_toArray, List.set_cons_zero, List.set_cons_succ]
      refine anyS_at (i := 19) (d := 75) (v := .int .i64 (i : Int)) rfl rfl rfl (by kernel_rfl) (by kernel_rfl) (by kernel_rfl) (fun _ _ _ h => h) (fun _ => rfl) rfl hS2 (by intro W' hW'; obtain ⟨q1, q2⟩ := hW'; go_simp) ?_
      dsimp only
      simp only [List.setIfInBounds_toArray, List.set_cons_zero, List.set_cons_succ]
      refine anyS_at (i := 20) (d := 76) (v := .int .i64 (a3 : Int)) rfl rfl rfl (by kernel_rfl) (by kernel_rfl) (by kernel_rfl) (fun _ _ _ h => h) (fun _ => rfl) rfl hS2 (by intro W' hW'; obtain ⟨q1, q2⟩ := hW'; go_simp) ?_
      dsimp only
      simp only [List.setIfInBounds_toArray, List.set_cons_zero, List.set_cons_succ]
      refine anyS_at (i := 21) (d := 77) (v := .int .i64 (e5 : Int)) rfl rfl rfl (by kernel_rfl) (by kernel_rfl) (by kernel_rfl) (fun _ _ _ h => h) (fun _ => rfl) rfl hS2 (by intro W' hW'; obtain ⟨q1, q2⟩ := hW'; go_simp) ?_
      dsimp only
      simp only [List.setIfInBounds_toArray, List.set_cons_zero, List.set_cons_succ]
      refine anyS_at (i := 22) (d := 78) (v := .int .i64 (e4 : Int)) rfl rfl rfl (by kernel_rfl) (by kernel_rfl) (by kernel_rfl) (fun _ _ _ h => h) (fun _ => rfl) rfl hS2 (by intro W' hW'; obtain ⟨q1, q2⟩ := hW'; go_simp) ?_
      dsimp only
      simp only [List.setIfInBounds_toArray, List.set_cons_zero, List.set_cons_succ]
      refine anyS_at (i := 23) (d := 79) (v := .slice (some ad7) N c7) rfl rfl rfl (by kernel_rfl) (by kernel_rfl) (by kernel_rfl) (fun _ _ _ h => h) (fun _ => rfl) rfl hS2 (by intro W' hW'; obtain ⟨q1, q2⟩ := hW'; go_simp) ?_
      dsimp only
      simp only [List.setIfInBounds_toArray, List.set_cons_zero, List.set_cons_succ]
      refine anyS_one (i := 24) (by kernel_rfl) rfl (fun K' hK => ?_)
      have HKA := Aside0.mk hK
      clear hK
      go_simp
      gi_wp2_with (gi_at_call 46; refine (callsIn_wide.2 (HCLN.out _ (below_drew (Below.refl _ _)))).mono ?_; rintro e w3 ⟨v, rfl, ho3, hb3⟩)
      obtain ⟨A8, c8, rfl, _⟩ := ho3.reads
      have hbb : Below w2.heap.size w2 w3 := (below_drew (Below.refl _ _)).trans hb3
      have hS3 : w3.cell? ⟨Bs, 0, none⟩ = some (.slice (some ad) b.length c) ∧ w3.cell? (ad.add a2) = some (.int .u8 k) := ⟨(hbb.cell (World.block_lt_of_cell? _ _ cs2)).trans cs2, (hbb.cell (World.block_lt_of_cell? _ _ hk2)).trans hk2⟩
      have HKB := Aside0.mk (Kw.below (n0 := n0) (Bs := Bs) hbb)
      refine HKA.out _ _ hS3 ?_
      clear HKA K'
      obtain ⟨fn, tmps, assign, body, hy, hR⟩ := HY.out pre (e5, k, .slice A8 z.length c8, z) w3 (HJ.out _ _ _ HJ2.out hbb) (OB.lower ho3 HLT.out.2.2) (HTX _).out
      dsimp only [encR] at hy
      clear ho3 hb3 hbb
      refine anyS_at (i := 25) (d := 81) (v := .agg #[.int .i64 k, .slice A8 z.length c8]) rfl rfl rfl (by kernel_rfl) (by kernel_rfl) (by kernel_rfl) (fun _ _ _ h => h) (fun _ => rfl) rfl hS3 (by intro W' hW'; obtain ⟨q1, q2⟩ := hW'; go_simp) ?_
      dsimp only
      simp only [List.setIfInBounds_toArray, List.set_cons_zero, List.set_cons_succ]
      refine anyS_one (i := 26) (by kernel_rfl) rfl (fun K' hK => ?_)
      have HKA := Aside0.mk hK
      clear hK
      go_simp
      gi_wp2_with fail
      refine hR.mono ?_
      rintro e W3 hh
      obtain ⟨bb, rfl, hky, hh2⟩ := told hh
      have HH2 := Aside0.mk hh2
      have HKY := Aside0.mk hky
      have hS4 : W3.cell? ⟨Bs, 0, none⟩ = some (.slice (some ad) b.length c) ∧ W3.cell? (ad.add a2) = some (.int .u8 k) := ⟨cell_kw hS3.1 hky (.inr rfl), cell_kw hS3.2 hky (.inl (by have hbk : (ad.add a2).block = ad.block := (by unfold Addr.add; split <;> rfl); rw [hbk]; exact HAD.out))⟩
      clear hh hh2 hy hR hky hS3
      dsimp only
      refine HKA.out _ _ hS4 ?_
      clear HKA K'
      refine anyS_at (i := 27) (d := 83) (v := .bool (!bb)) rfl rfl rfl (by kernel_rfl) (by kernel_rfl) (by kernel_rfl) (fun _ _ _ h => h) (fun _ => rfl) rfl hS4 (by intro W' hW'; obtain ⟨q1, q2⟩ := hW'; go_simp) ?_
      dsimp only
      simp only [List.setIfInBounds_toArray, List.set_cons_zero, List.set_cons_succ]
      refine anyS_at (i := 28) (d := 84) (v := .bool (!bb)) rfl rfl rfl (by kernel_rfl) (by kernel_rfl) (by kernel_rfl) (fun _ _ _ h => h) (fun _ => rfl) rfl hS4 (by intro W' hW'; obtain ⟨q1, q2⟩ := hW'; go_simp) ?_
      dsimp only
      simp only [List.setIfInBounds_toArray, List.set_cons_zero, List.set_cons_succ]
      refine anyS_done (by kernel_rfl) ?_ _
      clear hS4
      all_goals
        rcases HH2.out with ⟨rfl, hJ3⟩ | ⟨rfl, hJx3⟩
        · have HJ3 := Aside0.mk hJ3
          have HK3 := Aside0.mk ((HK2.out.trans HKB.out).trans HKY.out)
          clear HH2 hJ3 cs2 hk2 hS2 hcut6 hcut7 hne gw
          gi_wp2
          go_roundw
          case rel => exact ⟨e5, pre ++ [(e5, k, .slice A8 z.length c8, z)], HLT.out.1, rfl, HJ3, HK3, ⟨by rw [← HST.out, List.map_append, List.append_assoc]; rfl⟩⟩
          case measure => simp [intOf]; have := HLT.out; omega
        · clear HH2 cs2 hk2 hS2 hcut6 hcut7 hne gw
          gi_wp2
          refine bodyPost_ret (results_none rfl _ _ _) rfl ?_
          exact ⟨⟨_, rfl⟩, .inr ⟨pre ++ [(e5, k, .slice A8 z.length c8, z)], ⟨readL e5 (b.drop e5), by rw [← HST.out, List.map_append, List.append_assoc]; rfl⟩, hJx3⟩⟩
    · have hne : (G != S) = true := by simp [hGS]
      have HE := Aside0.mk (HIR.out.1 hGS)
      clear hGS HIR
      gi_wp2_with (gi_at_call 39; refine (callsIn_wide.2 HG.out).mono ?_; rintro e w' ⟨rfl, hw'⟩; have hw' := hw'.symm; subst hw')
      refine wpIn_wide.2 ?_
      go_quiet ((go_at_call 57; exact Calls.quiet_of_same (HS.out _ (pw_below_drewN (Below.refl _ _) _))))
      obtain ⟨w3, hw3⟩ : ∃ w3, w3 = w2.drewN nq := ⟨_, rfl⟩
      have HJ3 := Aside0.mk (HJ.out _ _ _ HJ2.out (show Below w2.heap.size w2 w3 by rw [hw3]; exact pw_below_drewN (Below.refl _ _) _))
      rw [← hw3]
      gi_wp2
      refine bodyPost_ret (results_none rfl _ _ _) rfl ?_
      exact ⟨⟨_, rfl⟩, .inl ⟨pre, HE.out, HJ3.out⟩⟩
end Go.Proofs.Ytobljkhidgbeoaa.Oct
