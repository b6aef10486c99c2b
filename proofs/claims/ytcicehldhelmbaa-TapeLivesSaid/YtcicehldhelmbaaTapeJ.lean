import Derived.Test.YtcicehldhelmbaaTapeI
import Derived.Deep.RegionHeldLaw
namespace Go.Proofs.Ytcicehldhelmbaa.Oct
open Go.RowKit Go.Proofs.YtcicehldhelmbaaW.PrintWords Go.Proofs.Ytcicehldhelmbaa.M
set_option linter.unusedVariables false
set_option linter.unusedSimpArgs false
theorem TS.crash_crash {t : TS} (h : t.ok) (k j : Int) : (t.crash k).crash j = t.crash k := by
  have hle := TS.left_le h k
  have hl : (t.crash k).left j = t.left k := by
    have h1 : (t.crash k).bs.length = t.left k := by unfold TS.crash; simp; omega
    have h2 : (t.crash k).forced = t.left k := rfl
    show (t.crash k).forced + (max (min j (((t.crash k).bs.length : Int) - (t.crash k).forced)) 0).toNat = t.left k
    rw [h1, h2]
    omega
  show ({ t.crash k with bs := (t.crash k).bs.take ((t.crash k).left j), forced := (t.crash k).left j } : TS) = t.crash k
  rw [hl]
  unfold TS.crash
  simp only [List.take_take, Nat.min_self]
theorem TS.force_crash {t : TS} (h : t.ok) (j : Int) : (t.force.crash j).bs = t.bs := by
  have hl : t.force.left j = t.bs.length := by
    show t.bs.length + (max (min j ((t.bs.length : Int) - (t.bs.length : Nat))) 0).toNat = t.bs.length
    omega
  show t.bs.take (t.force.left j) = t.bs
  rw [hl, List.take_length]
/-- two tapes above a mark that share nothing -/
def Two (base : Nat) (W : World) (p : Nat) (t : TS) (q : Nat) (u : TS) : Prop := ∃ F G : Nat → Prop, TapeAt W p t F ∧ TapeAt W q u G ∧ (∀ k, F k → ¬ G k) ∧ (∀ k, F k → base ≤ k) ∧ ∀ k, G k → base ≤ k
theorem Two.swap {base : Nat} {W : World} {p q : Nat} {t u : TS} (h : Two base W p t q u) : Two base W q u p t := by
  obtain ⟨F, G, h1, h2, h3, h4, h5⟩ := h
  exact ⟨G, F, h2, h1, fun k hg hf => h3 k hf hg, h5, h4⟩
theorem Two.below {base : Nat} {W W' : World} {p q : Nat} {t u : TS} (h : Two base W p t q u) (hb : Below W.heap.size W W') : Two base W' p t q u := by
  obtain ⟨F, G, h1, h2, h3, h4, h5⟩ := h
  exact ⟨F, G, h1.below hb, h2.below hb, h3, h4, h5⟩
theorem Two.fst {base : Nat} {W : World} {p q : Nat} {t u : TS} (h : Two base W p t q u) : TapeAt W p t (fun k => base ≤ k) := by
  obtain ⟨F, G, h1, h2, h3, h4, h5⟩ := h
  exact h1.mono (fun k hk _ => h4 k hk)
theorem Two.call {base : Nat} {W : World} {p q : Nat} {t t' u : TS} {n : Int} {f : Nat} {args : Array Value} (h : Two base W p t q u) (hbase : base ≤ W.heap.size)
    (hc : ∀ F, TapeAt W p t F → Calls Try.prog f args W (RetT W p F t' n)) : Calls Try.prog f args W (fun e W' => e = .returned (.int .i64 n) ∧ Two base W' p t' q u ∧ W.grownBy W' (some p) ∧ Below base W W') := by
  obtain ⟨F, G, h1, h2, h3, h4, h5⟩ := h
  refine (hc F h1).mono ?_
  rintro e W' ⟨rfl, ht, hg⟩
  have hp := h1.is.2.1
  refine ⟨rfl, ⟨_, fun k => G k ∧ k < W.heap.size, ht, ?_, ?_, ?_, fun k hk => h5 k hk.1⟩, hg, ?_⟩
  · exact (h2.mono (G := fun k => G k ∧ k < W.heap.size) (fun k hk hlt => ⟨hk, hlt⟩)).grown hg (fun k hk e => by injection e with e; subst e; exact h3 _ hp hk.1)
  · rintro k (hk | hk) hG
    · exact h3 k hk hG.1
    · have := hG.2
      have hk' : W.heap.size ≤ k := hk
      omega
  · rintro k (hk | hk)
    · exact h4 k hk
    · exact Nat.le_trans hbase hk
  · have hb := (Below.refl W.heap.size W).mono hbase
    exact hb.grown hg hbase (fun k hk => by injection hk with hk; subst hk; exact h4 _ hp)
set_option maxHeartbeats 2000000 in
theorem twice_calls (w : World) (room keep again : Int) (l : List OpS) (A : Option Addr) (c : Nat) (h : opK.C w A l.length l) (ho : ∀ o ∈ l, OpS.ok o) (hk : -9223372036854775808 ≤ keep ∧ keep ≤ 9223372036854775807) (ha : -9223372036854775808 ≤ again ∧ again ≤ 9223372036854775807) :
    Calls Try.prog 6 #[.int .i64 room, .slice A l.length c, .int .i64 keep, .int .i64 again] w (Yes w) := by
  have HL := Aside0.mk h
  have HOK := Aside0.mk ho
  have HK := Aside0.mk hk
  have HA := Aside0.mk ha
  clear h ho hk ha
  go_enter Try.func6, Try.ntmps6
  go_wp2_with fail
  refine (played_calls _ room l A c HL.out HOK.out).mono ?_
  rintro e w1 ⟨hb, hp1⟩
  have HB := Aside0.mk hb
  have HP1 := Aside0.mk hp1
  have HC := Aside0.mk (played_calls w1 room l A c (Kd.C_below HL.out hb) HOK.out)
  clear hb hp1
  rcases HP1.out with ⟨hn, rfl⟩ | ⟨t, p, hpl, rfl, ht⟩
  · have HN := Aside0.mk hn
    clear hn HP1
    go_wp2_with fail
    refine HC.out.mono ?_
    rintro e w2 ⟨hb2, ⟨_, rfl⟩ | ⟨t2, p2, hp2, _⟩⟩
    · have HB2 := Aside0.mk (HB.out.trans (hb2.mono HB.out.size))
      clear hb2
      go_wp2_with fail
      refine (alive_calls _).mono ?_
      rintro e w3 ⟨rfl, hb3⟩
      have HB3 := Aside0.mk (HB2.out.trans (hb3.mono HB2.out.size))
      clear hb3
      go_wp2_with fail
      go_ret
      exact ⟨rfl, HB3.out⟩
    · have := HN.out
      rw [hp2] at this
      cases this
  have HPL := Aside0.mk hpl
  have HP := Aside0.mk ht.is
  have HT := Aside0.mk (ht.mono (G := fun k => w.heap.size ≤ k ∧ k < w1.heap.size) (fun k hk hlt => ⟨hk, hlt⟩))
  clear hpl ht HP1
  go_wp2_with fail
  refine HC.out.mono ?_
  rintro e w2 ⟨hb2, ⟨hn, _⟩ | ⟨t2, p2, hp2, rfl, ht2⟩⟩
  · have := HPL.out
    rw [hn] at this
    cases this
  obtain rfl : t = t2 := by have := HPL.out; rw [hp2] at this; injection this with this; exact this.symm
  have HB2 := Aside0.mk (HB.out.trans (hb2.mono HB.out.size))
  have H2 : Aside0 (Two w.heap.size w2 p t p2 t) := ⟨_, _, HT.out.below hb2, ht2, (fun k hk hg => by have := hk.2; have hg' : w1.heap.size ≤ k := hg; omega), (fun k hk => hk.1), fun k hk => Nat.le_trans HB.out.size hk⟩
  have HQ : Aside0 (p2 < w2.heap.size) := ⟨ht2.is.1⟩
  have HP2 : Aside0 (p < w2.heap.size) := ⟨Nat.lt_of_lt_of_le HP.out.1 hb2.size⟩
  have HO := Aside0.mk HP.out.2.2
  clear hb2 ht2 hp2 HT HC HB HP HPL
  go_wp2_with fail
  refine (H2.out.call HB2.out.size (fun F hF => crash_calls _ p _ F keep hF HK.out)).mono ?_
  rintro e w3 ⟨rfl, h3, hg3, hb3⟩
  have H3 := Aside0.mk h3
  have HB3 := Aside0.mk (HB2.out.trans hb3)
  have HS3 := Aside0.mk hg3.size
  clear h3 hg3 hb3 HB2 H2
  go_wp2_with fail
  refine (bytes_calls _ p _ _ H3.out.fst).mono ?_
  rintro e w4 ⟨v1, rfl, ho1, hb4⟩
  have H4 := Aside0.mk (H3.out.below hb4)
  have HB4 := Aside0.mk (HB3.out.trans (hb4.mono HB3.out.size))
  have HS4 := Aside0.mk hb4.size
  have HV4 := Aside0.mk ho1
  clear ho1 hb4 H3 HB3
  go_wp2_with fail
  refine (H4.out.call HB4.out.size (fun F hF => crash_calls _ p _ F again hF HA.out)).mono ?_
  rintro e w5 ⟨rfl, h5, hg5, hb5⟩
  rw [TS.crash_crash HO.out] at h5
  have H5 := Aside0.mk h5
  have HB5 := Aside0.mk (HB4.out.trans hb5)
  have HS5 := Aside0.mk hg5.size
  have HV5 := Aside0.mk (HV4.out.keep hg5 (by have := HP2.out; have := HS3.out; omega))
  clear h5 hg5 hb5 H4 HB4 HV4
  go_wp2_with fail
  refine (bytes_calls _ p _ _ H5.out.fst).mono ?_
  rintro e w6 ⟨v2, rfl, ho2, hb6⟩
  have H6 := Aside0.mk (H5.out.below hb6)
  have HB6 := Aside0.mk (HB5.out.trans (hb6.mono HB5.out.size))
  have HS6 := Aside0.mk hb6.size
  have HV6 := Aside0.mk (HV5.out.below hb6)
  have HX6 := Aside0.mk ho2
  clear ho2 hb6 H5 HB5 HV5
  go_wp2_with fail
  refine (bytes_calls _ p2 _ _ H6.out.swap.fst).mono ?_
  rintro e w7 ⟨v3, rfl, ho3, hb7⟩
  have H7 := Aside0.mk (H6.out.below hb7)
  have HB7 := Aside0.mk (HB6.out.trans (hb7.mono HB6.out.size))
  have HS7 := Aside0.mk hb7.size
  have HV7 := Aside0.mk (HV6.out.below hb7)
  have HX7 := Aside0.mk (HX6.out.below hb7)
  have HY7 := Aside0.mk ho3
  clear ho3 hb7 H6 HB6 HV6 HX6
  go_wp2_with fail
  refine (H7.out.swap.call HB7.out.size (fun F hF => force_calls _ p2 _ F hF)).mono ?_
  rintro e w8 ⟨rfl, h8, hg8, hb8⟩
  have H8 := Aside0.mk h8
  have HB8 := Aside0.mk (HB7.out.trans hb8)
  have HS8 := Aside0.mk hg8.size
  have HQ' : Aside0 (p2 < w3.heap.size ∧ p2 < w5.heap.size ∧ p2 < w6.heap.size) := ⟨by have := HQ.out; have := HS3.out; have := HS4.out; have := HS5.out; have := HS6.out; omega⟩
  have HV8 := Aside0.mk (HV7.out.keep hg8 HQ'.out.1)
  have HX8 := Aside0.mk (HX7.out.keep hg8 HQ'.out.2.1)
  have HY8 := Aside0.mk (HY7.out.keep hg8 HQ'.out.2.2)
  clear h8 hg8 hb8 H7 HB7 HV7 HX7 HY7
  go_wp2_with fail
  refine (H8.out.call HB8.out.size (fun F hF => crash_calls _ p2 _ F again hF HA.out)).mono ?_
  rintro e w9 ⟨rfl, h9, hg9, hb9⟩
  have H9 := Aside0.mk h9
  have HB9 := Aside0.mk (HB8.out.trans hb9)
  have HV9 := Aside0.mk (HV8.out.keep hg9 HQ'.out.1)
  have HX9 := Aside0.mk (HX8.out.keep hg9 HQ'.out.2.1)
  have HY9 := Aside0.mk (HY8.out.keep hg9 HQ'.out.2.2)
  have HW : Aside0 (∀ w5, Below w9.heap.size w9 w5 → (convert 30 9 v1).run Try.prog w5 = .ok (.string (strOfNums (t.crash keep).bs)) w5 ∧ (convert 30 9 v2).run Try.prog w5 = .ok (.string (strOfNums (t.crash keep).bs)) w5 ∧ (convert 30 9 v3).run Try.prog w5 = .ok (.string (strOfNums t.bs)) w5 ∧ Aside0 (Two w.heap.size w5 p2 (t.force.crash again) p (t.crash keep)) ∧ OB w5 w6.heap.size v3 t.bs) := ⟨fun w5 h5 =>
    ⟨(HV9.out.below h5).string, (HX9.out.below h5).string, (HY9.out.below h5).string, ⟨H9.out.below h5⟩, HY9.out.below h5⟩⟩
  clear h9 hg9 hb9 H8 HB8 HV8 HX8 HY8
  obtain ⟨S1, hS1⟩ : ∃ S, S = strOfNums (t.crash keep).bs := ⟨_, rfl⟩
  obtain ⟨S2, hS2⟩ : ∃ S, S = strOfNums t.bs := ⟨_, rfl⟩
  rw [← hS1, ← hS2] at HW
  have HS2 := Aside0.mk hS2
  clear hS1 hS2 HV9 HX9 HY9 H9
  go_wp2_with fail
  go_region_held_law (fun _ => True) (first | trivial | exact fun _ _ => trivial)
    (first | (go_at_call 11; refine (alive_calls _).mono ?_; rintro e wa ⟨rfl, hba⟩; obtain ⟨hs1, hs2, hs3, ha2, ha3⟩ := HW.out _ ((below_drew (Below.refl w9.heap.size w9)).trans hba)) | (go_at_call 14; refine (bytes_calls _ p2 _ _ ha2.out.fst).mono ?_; rintro e wb ⟨v4, rfl, ho4, hbb⟩; have hs4 := ho4.string; rw [TS.force_crash HO.out, ← HS2.out] at hs4; have hs5 := (ha3.below hbb).string; rw [← HS2.out] at hs5))
  all_goals
    go_wp2_with fail
    go_ret
    have hz := HB9.out.trans (((below_drew (Below.refl w9.heap.size w9)).trans hba).mono HB9.out.size)
    exact ⟨rfl, hz.trans (hbb.mono hz.size)⟩
end Go.Proofs.Ytcicehldhelmbaa.Oct
