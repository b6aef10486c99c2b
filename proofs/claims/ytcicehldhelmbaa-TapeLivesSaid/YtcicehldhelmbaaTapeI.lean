import Derived.Test.YtcicehldhelmbaaTapeH
namespace Go.Proofs.Ytcicehldhelmbaa.Oct
open Go.RowKit Go.Proofs.YtcicehldhelmbaaW.PrintWords Go.Proofs.Ytcicehldhelmbaa.M
set_option linter.unusedVariables false
set_option linter.unusedSimpArgs false
theorem C_str {w : World} {A : Option Addr} {n c : Nat} {xs : List Int} (h : (Kd.int .u8).C w A n xs) : (convert 30 9 (.slice A n c)).run Try.prog w = .ok (.string (strOfNums xs)) w :=
  Kd.C_string Try.underlying30 Try.underlying5 Try.underlying9 h
theorem C_take {w : World} {A : Option Addr} {xs : List Int} (h : (Kd.int .u8).C w A xs.length xs) (n : Nat) (hn : n ≤ xs.length) : (Kd.int .u8).C w A n (xs.take n) := by
  refine ⟨(by simp [hn]), Nat.le_trans hn h.2.1, fun h0 => ?_⟩
  obtain ⟨ad, e, hc⟩ := h.2.2 (by omega)
  refine ⟨ad, e, fun j y hy => ?_⟩
  rw [List.getElem?_take] at hy
  split at hy
  · exact hc j y hy
  · cases hy
theorem OB.cap {W : World} {base : Nat} {A : Option Addr} {n c : Nat} {xs : List Int} (h : OB W base (.slice A n c) xs) : n ≤ c := by
  rcases h.2 with ⟨e, h0⟩ | ⟨g, cap, cur, e, _, _, h2⟩
  · injection e with _ e _
    omega
  · injection e with _ e e2
    have := h2.2
    omega
theorem TapeAt.is {W : World} {p : Nat} {t : TS} {F : Nat → Prop} (h : TapeAt W p t F) : p < W.heap.size ∧ F p ∧ t.ok := by
  obtain ⟨_, _, hh, _, hp, _, hok⟩ := h
  exact ⟨(Array.getElem?_eq_some_iff.1 hh).1, hp, hok⟩
theorem OB.keep {W W' : World} {base p : Nat} {v : Value} {xs : List Int} (h : OB W base v xs) (hg : W.grownBy W' (some p)) (hp : p < base) : OB W' base v xs :=
  own_move h (fun k hk => hg.block k (own_lt h k hk) (fun e => by have := own_base h k hk; injection e with e; omega))
set_option maxHeartbeats 2000000 in
theorem lasts_calls (w : World) (room keep : Int) (l : List OpS) (A : Option Addr) (c : Nat) (h : opK.C w A l.length l) (ho : ∀ o ∈ l, OpS.ok o) (hk : -9223372036854775808 ≤ keep ∧ keep ≤ 9223372036854775807) :
    Calls Try.prog 5 #[.int .i64 room, .slice A l.length c, .int .i64 keep] w (Yes w) := by
  have HL := Aside0.mk h
  have HOK := Aside0.mk ho
  have HK := Aside0.mk hk
  clear h ho hk
  go_enter Try.func5, Try.ntmps5
  go_wp2_with fail
  refine (played_calls _ room l A c HL.out HOK.out).mono ?_
  rintro e w1 ⟨hb, ⟨_, rfl⟩ | ⟨t, p, hpl, rfl, ht⟩⟩
  · have HB := Aside0.mk hb
    clear hb
    go_wp2_with fail
    refine (alive_calls _).mono ?_
    rintro e w2 ⟨rfl, hb2⟩
    have HB2 := Aside0.mk (HB.out.trans (hb2.mono HB.out.size))
    clear hb2
    go_wp2_with fail
    go_ret
    exact ⟨rfl, HB2.out⟩
  have HB := Aside0.mk hb
  have HT := Aside0.mk ht
  have HPL := Aside0.mk hpl
  have HP := Aside0.mk ht.is
  have HT := Aside0.mk (ht.mono (G := fun k => w.heap.size ≤ k ∧ k < w1.heap.size) (fun k hk hlt => ⟨hk, hlt⟩))
  clear hb ht hpl
  go_wp2_with fail
  refine (bytes_calls _ p _ _ HT.out).mono ?_
  rintro e w2 ⟨v, rfl, ho, hb⟩
  have HT2 := Aside0.mk (HT.out.below hb)
  have HB2 := Aside0.mk (HB.out.trans (hb.mono HB.out.size))
  have HO2 := Aside0.mk ho
  clear ho hb HT
  go_wp2_with fail
  refine (forced_calls _ p _ _ HT2.out).mono ?_
  rintro e w2' ⟨rfl, rfl⟩
  go_wp2_with fail
  refine (crash_calls _ p _ _ keep HT2.out HK.out).mono ?_
  rintro e w3 ⟨rfl, ht, hg⟩
  have HT3 := Aside0.mk ht
  have HB3 := Aside0.mk (HB2.out.grown hg HB2.out.size (fun k hk => by injection hk with hk; have := HP.out.2.1; omega))
  have HO3 := Aside0.mk (HO2.out.keep hg HP.out.1)
  clear ht hg HT2 HB2 HO2
  go_wp2_with fail
  refine (bytes_calls _ p _ _ HT3.out).mono ?_
  rintro e w4 ⟨v2, rfl, ho, hb⟩
  have HT4 := Aside0.mk (HT3.out.below hb)
  have HB4 := Aside0.mk (HB3.out.trans (hb.mono HB3.out.size))
  have HO4 := Aside0.mk (HO3.out.below hb)
  have HN4 := Aside0.mk ho
  obtain ⟨A1, c1, rfl, _⟩ := HO4.out.reads
  obtain ⟨A2, c2, rfl, _⟩ := HN4.out.reads
  have hle := TS.left_le HP.out.2.2 keep
  have hcl : (t.crash keep).bs.length = t.left keep := by unfold TS.crash; simp; omega
  have hct : Aside0 ((t.crash keep).bs = t.bs.take (t.left keep)) := ⟨rfl⟩
  have hcf : Aside0 ((t.crash keep).forced = t.left keep) := ⟨rfl⟩
  have hcap := HO4.out.cap
  clear ho hb HT3 HB3 HO3
  rw [hcl]
  rw [hcl] at HN4
  obtain ⟨m, hm⟩ : ∃ m, m = t.left keep := ⟨_, rfl⟩
  obtain ⟨t2, ht2⟩ : ∃ t2, t2 = t.crash keep := ⟨_, rfl⟩
  obtain ⟨n, hn⟩ : ∃ n, n = t.bs.length := ⟨_, rfl⟩
  obtain ⟨f, hf⟩ : ∃ f, f = t.forced := ⟨_, rfl⟩
  rw [← hm] at hle hcl hct hcf HN4
  rw [← ht2] at HT4 HN4 hcl hct hcf
  have HA : Aside0 (∀ w5, Below w4.heap.size w4 w5 → (convert 30 9 (.slice A1 m c1)).run Try.prog w5 = .ok (.string (strOfNums t2.bs)) w5 ∧ (convert 30 9 (.slice A2 m c2)).run Try.prog w5 = .ok (.string (strOfNums t2.bs)) w5 ∧ Aside0 (TapeAt w5 p t2 (fun _ => True))) := ⟨fun w5 h5 => by
    refine ⟨?_, (HN4.out.below h5).string, ⟨(HT4.out.below h5).mono (fun _ _ _ => trivial)⟩⟩
    obtain ⟨A', c', e, hr⟩ := (HO4.out.below h5).reads
    injection e with e
    subst e
    rw [hct.out]
    exact C_str (C_take hr m hle.2)⟩
  have hle1 : (f : Int) ≤ m := by rw [hf]; have := hle.1; omega
  have hle2 : (m : Int) ≤ n := by rw [hn]; have := hle.2; omega
  have hle3 : (m : Int) ≤ c1 := by have := hle.2; omega
  rw [← hn, ← hf, ← hm]
  have hfm : t2.forced = m := hcf.out
  clear hle hcl hcap HN4 HO4 HT4 hn hf hm ht2
  obtain ⟨S, hS⟩ : ∃ S, S = strOfNums t2.bs := ⟨_, rfl⟩
  rw [← hS] at HA
  clear hS
  go_wp2_with fail
  go_region_held3 (fun w' => (convert 30 9 (.slice A1 m c1)).run Try.prog w' = .ok (.string S) w' ∧ (convert 30 9 (.slice A2 m c2)).run Try.prog w' = .ok (.string S) w') (first | exact ⟨hs1, hs2⟩ | exact ⟨(HA.out _ (below_drew (Below.refl w4.heap.size w4))).1, (HA.out _ (below_drew (Below.refl w4.heap.size w4))).2.1⟩)
    (first | (go_at_call 11; refine (alive_calls _).mono ?_; rintro e w5 ⟨rfl, hb5⟩; obtain ⟨hs1, hs2, ht5⟩ := HA.out _ ((below_drew (Below.refl w4.heap.size w4)).trans hb5)) | (go_at_call 17; refine (forced_calls _ p t2 _ ht5.out).mono ?_; rintro e w6 ⟨rfl, rfl⟩))
  all_goals
    go_wp2_with fail
    go_ret
    exact ⟨rfl, HB4.out.trans (((below_drew (Below.refl w4.heap.size w4)).trans hb5).mono HB4.out.size)⟩
end Go.Proofs.Ytcicehldhelmbaa.Oct
