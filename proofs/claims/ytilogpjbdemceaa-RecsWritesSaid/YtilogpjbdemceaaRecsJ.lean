import Derived.Test.YtilogpjbdemceaaRecsH
import Derived.Test.YtilogpjbdemceaaFRPut
namespace Go.Proofs.Ytilogpjbdemceaa.Oct
open Go.RowKit Go.Proofs.YtilogpjbdemceaaW.PrintWords Go.Proofs.Ytilogpjbdemceaa.M
set_option linter.unusedVariables false
set_option linter.unusedSimpArgs false
theorem putM_two {N : Nat} (h : N < 65536) : putM (N : Int) 2 = ([(N : Int) / 256, (N : Int) % 256], 0) := by
  unfold putM
  rw [if_neg (by omega), if_neg (by simp; omega)]
  have : beB (N : Int) (2 : Int).toNat = [(N : Int) / 256, (N : Int) % 256] := by
    show [beAt (N : Int) 2 0, beAt (N : Int) 2 1] = _
    unfold beAt
    simp
    omega
  rw [this]
set_option maxHeartbeats 1000000 in
theorem rrwrite_calls (w : World) (A : Option Addr) (c : Nat) (xs : List Int) (hr : Kd.C (Kd.int .u8) w A xs.length xs) (hlen : xs.length ≤ 140737488355328) : Calls Try.prog 39 #[.slice A xs.length c] w (RetW w (recM xs)) := by
  have HR := Aside0.mk hr
  clear hr
  by_cases h : 32765 < xs.length
  · have HV := Aside0.mk (recM_long h)
    have h1 : 32765 < (xs.length : Int) := by omega
    have h2 : (xs.length : Int) ≤ 140737488355328 := by omega
    clear h hlen
    go_enter Try.func39, Try.ntmps39
    go_wp2
    go_ret2
    rw [HV.out]
    exact ⟨_, rfl, OB.nil _ _, Below.refl _ _⟩
  · obtain ⟨N, hN⟩ : ∃ N : Nat, N = xs.length + 2 := ⟨_, rfl⟩
    have HV := Aside0.mk (recM_good h hN)
    have hw : (xs.length : Int) + 2 = (N : Int) := by omega
    have h1 : (xs.length : Int) ≤ 32765 := by omega
    have h3 : (N : Int) ≤ 32767 := by omega
    have HP := Aside0.mk (putM_two (N := N) (by omega))
    have HL := Aside0.mk hlen
    clear h hlen hN
    go_enter Try.func39, Try.ntmps39
    go_wp2_with fail
    refine (rput_calls _ (N : Int) 2 (by omega) (by omega)).mono ?_
    rintro e w1 ⟨v, rfl, ho, hb⟩
    rw [HP.out] at ho ⊢
    obtain ⟨A1, c1, rfl, _⟩ := ho.reads
    have HO := Aside0.mk ho
    have HB := Aside0.mk hb
    clear ho hb
    go_wp2_with ((with_reducible refine gate_dst (N := 19) rfl ?_); at_builtin; refine app_bytes (W0 := w) w.heap.size rfl (.tmp 17) (.tmp 18) rfl _ [(N : Int) / 256, (N : Int) % 256] xs A xs.length c rfl rfl HO.out (Kd.C_below HR.out HB.out) HB.out HB.out.size ?aL ?_; (case aL => have := HL.out; simp only [List.length_cons, List.length_nil]; omega); intro v1 w2 ho hb _ _; have HO2 := Aside0.mk ho; have HB2 := Aside0.mk hb; clear ho hb)
    go_ret2
    rw [HV.out]
    exact ⟨_, rfl, HO2.out, HB2.out⟩
set_option maxHeartbeats 2000000 in
theorem rwrites_calls (w : World) (A : Option Addr) (c : Nat) (xs : List Int) (n : Int) (hr : Kd.C (Kd.int .u8) w A xs.length xs) (hb : Bytes xs) (hlen : xs.length ≤ 140737488355328) : Calls Try.prog 12 #[.slice A xs.length c, .int .i64 n] w (Yes w) := by
  have HR := Aside0.mk hr
  have HX := Aside0.mk hb
  have hl2 : (xs.length : Int) ≤ 140737488355328 := by omega
  have HL := Aside0.mk hlen
  clear hr hb hlen
  by_cases h : 40000 < (xs.length : Int)
  · go_enter Try.func12, Try.ntmps12
    go_wp2_with fail
    refine (salive_calls _).mono ?_
    rintro e w3 ⟨rfl, hb3⟩
    have HB3 := Aside0.mk hb3
    clear hb3
    go_wp2_with fail
    go_ret
    exact ⟨rfl, HB3.out⟩
  · have h40 : (xs.length : Int) ≤ 40000 := by omega
    clear h
    go_enter Try.func12, Try.ntmps12
    go_wp2_with fail
    refine (swrite_calls _ A c xs HR.out HL.out).mono ?_
    rintro e w1 ⟨v1, rfl, ho1, hb1⟩
    obtain ⟨A1, c1, rfl, _⟩ := ho1.reads
    have HO1 := Aside0.mk ho1
    have HB1 := Aside0.mk hb1
    clear ho1 hb1
    go_wp2_with fail
    refine (rrwrite_calls _ A c xs (Kd.C_below HR.out HB1.out) HL.out).mono ?_
    rintro e w2 ⟨v2, rfl, ho2, hb2⟩
    obtain ⟨A2, c2, rfl, _⟩ := ho2.reads
    have HO2 := Aside0.mk ho2
    have HO12 := Aside0.mk (HO1.out.below hb2)
    have HB2 := Aside0.mk (HB1.out.trans (hb2.mono HB1.out.size))
    obtain ⟨er, her⟩ : ∃ er, er = (recM xs).2 := ⟨_, rfl⟩
    rw [← her]
    obtain ⟨m, hm⟩ : ∃ m, m = (recM xs).1.length := ⟨_, rfl⟩
    have HMM := Aside0.mk hm
    rw [← hm]
    clear ho2 hb2 HO1 HB1 her hm
    go_wp2_with fail
    obtain ⟨wt, hwt⟩ : ∃ wt, wt = w2.alloc (.cells #[.int .i64 0, .slice none 0 0, .bool false] 68) := ⟨_, rfl⟩
    obtain ⟨p, hp⟩ : ∃ p, p = w2.heap.size := ⟨_, rfl⟩
    have HT : Aside0 (StreamAt wt p ⟨0, [], false⟩ (fun k => k = p)) := ⟨⟨_, by rw [hwt, hp]; exact heap_alloc_new w2 _, QB.nil _ _, rfl, fun k h => (nomatch h), by decide, by decide, Bytes.nil⟩⟩
    have hbt : Below w2.heap.size w2 wt := by rw [hwt]; exact below_alloc (Below.refl _ _) _
    have HBt := Aside0.mk hbt
    have HP : Aside0 (w2.heap.size ≤ p) := ⟨by omega⟩
    rw [← hwt]
    rw [← hp]
    clear hwt hp hbt
    refine (sget_nil _ n).mono ?_
    rintro e w3 ⟨rfl, rfl⟩
    go_wp2_with fail
    refine (sget_calls _ p _ _ 1 HT.out (by omega)).mono ?_
    intro e w4 hr
    rw [show SS.get ⟨0, [], false⟩ 1 = ⟨⟨0, [], false⟩, [], false, 140⟩ from by kernel_rfl] at hr
    obtain ⟨v4, rfl, ht, ho, hk⟩ := hr
    obtain ⟨A4, c4, rfl, _⟩ := ho.reads
    have HT4 := Aside0.mk ht
    have HB4 := Aside0.mk (below_kept HBt.out hk HBt.out.size (fun k h => by have h : k = p := h; rw [h]; exact HP.out))
    clear ht ho hk HT
    go_wp2_with fail
    refine (salive_calls _).mono ?_
    rintro e w5 ⟨rfl, hb5⟩
    have HT5 := Aside0.mk (HT4.out.below hb5)
    have HB5 := Aside0.mk (HB4.out.trans (hb5.mono HB4.out.size))
    have hs1 := (HO12.out.below HB5.out).string
    have hs2 := (HO2.out.below HB5.out).string
    rw [← HMM.out] at hs1 hs2
    obtain ⟨str, hstr⟩ : ∃ str, str = strOfNums (recM xs).1 := ⟨_, rfl⟩
    rw [← hstr] at hs1 hs2
    have HBW := Aside0.mk (HB2.out.trans (HB5.out.mono HB2.out.size))
    clear hb5 hstr HT4
    go_wp2_with fail
    refine (sput_nil _ _).mono ?_
    rintro e w6 ⟨rfl, rfl⟩
    go_wp2_with fail
    refine (send_nil _).mono ?_
    rintro e w6 ⟨rfl, rfl⟩
    go_wp2_with fail
    refine (sheld_nil _).mono ?_
    rintro e w6 ⟨rfl, rfl⟩
    go_wp2_with fail
    refine (sput_calls _ p _ _ A c xs HT5.out (Kd.C_below HR.out HBW.out) HX.out).mono ?_
    rw [show SS.put ⟨0, [], false⟩ xs = (⟨0, xs, false⟩, 0) from by unfold SS.put; rw [if_neg (by simp), if_neg (by simp; omega), List.nil_append]]
    rintro e w7 ⟨rfl, ht7, hk7⟩
    have HT7 := Aside0.mk ht7
    have HB7 := Aside0.mk (below_kept HBW.out hk7 HBW.out.size (fun k h => by have h : k = p := h; have := HP.out; have := HB2.out.size; omega))
    clear hs1 hs2 ht7 hk7
    go_wp2_with fail
    refine (sheld_calls _ p _ _ HT7.out).mono ?_
    rintro e w8 ⟨rfl, rfl⟩
    go_wp2_with fail
    go_ret
    exact ⟨rfl, HB7.out⟩
end Go.Proofs.Ytilogpjbdemceaa.Oct
