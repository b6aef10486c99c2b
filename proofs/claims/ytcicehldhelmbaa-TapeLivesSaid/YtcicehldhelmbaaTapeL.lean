import Derived.Test.YtcicehldhelmbaaTapeK
namespace Go.Proofs.Ytcicehldhelmbaa.Oct
open Go.RowKit Go.Proofs.YtcicehldhelmbaaW.PrintWords Go.Proofs.Ytcicehldhelmbaa.M
set_option linter.unusedVariables false
set_option linter.unusedSimpArgs false
theorem parts_full {t : TS} {a b : List Int} (h : t.room - t.bs.length < (a ++ b).length) : (t.append (a ++ b)) = (t, 5) ∧ ((t.append a).2 = 5 ∨ ((t.append a).2 = 0 ∧ ((t.append a).1.append b).2 = 5)) := by
  rw [List.length_append] at h
  refine ⟨by unfold TS.append; rw [if_pos (by rw [List.length_append]; exact h)], ?_⟩
  by_cases ha : t.room - t.bs.length < a.length
  · exact .inl (by unfold TS.append; rw [if_pos ha])
  · have h1 : t.append a = ({ t with bs := t.bs ++ a }, 0) := by unfold TS.append; rw [if_neg ha]
    refine .inr ⟨by rw [h1], ?_⟩
    rw [h1]
    unfold TS.append
    rw [if_pos]
    show t.room - (t.bs ++ a).length < b.length
    rw [List.length_append]
    omega
theorem parts_fit {t : TS} {a b : List Int} (hok : t.ok) (h : ¬ t.room - t.bs.length < (a ++ b).length) : (t.append (a ++ b)) = ({ t with bs := t.bs ++ (a ++ b) }, 0) ∧ (t.append a).2 = 0 ∧ ((t.append a).1.append b) = ({ t with bs := t.bs ++ (a ++ b) }, 0) := by
  rw [List.length_append] at h
  have h1 : t.append a = ({ t with bs := t.bs ++ a }, 0) := by unfold TS.append; rw [if_neg (by omega)]
  refine ⟨by unfold TS.append; rw [if_neg (by rw [List.length_append]; exact h)], by rw [h1], ?_⟩
  rw [h1]
  unfold TS.append
  rw [if_neg]
  · show ((⟨t.room, t.bs ++ a ++ b, t.forced⟩, 0) : TS × Int) = _
    rw [List.append_assoc]
  · show ¬ t.room - (t.bs ++ a).length < b.length
    rw [List.length_append]
    have := hok.2.2.1
    omega
set_option maxHeartbeats 2000000 in
theorem parts_calls (w : World) (room : Int) (l : List OpS) (a b : List Int) (A B D : Option Addr) (c d x : Nat) (h : opK.C w A l.length l) (ho : ∀ o ∈ l, OpS.ok o) (hr : (Kd.int .u8).C w B a.length a) (hb : Bytes a) (hr2 : (Kd.int .u8).C w D b.length b) (hb2 : Bytes b) (hla : a.length ≤ 140737488355328) (hlb : b.length ≤ 140737488355328) :
    Calls Try.prog 8 #[.int .i64 room, .slice A l.length c, .slice B a.length d, .slice D b.length x] w (Yes w) := by
  have HL := Aside0.mk h
  have HOK := Aside0.mk ho
  have HA := Aside0.mk hr
  have HAB := Aside0.mk hb
  have HD := Aside0.mk hr2
  have HDB := Aside0.mk hb2
  clear h ho hr hb hr2 hb2
  go_enter Try.func8, Try.ntmps8
  go_wp2_with fail
  refine (played_calls _ room l A c HL.out HOK.out).mono ?_
  rintro e w1 ⟨hb, hp1⟩
  have HB := Aside0.mk hb
  have HP1 := Aside0.mk hp1
  have HC := Aside0.mk (played_calls w1 room l A c (Kd.C_below HL.out hb) HOK.out)
  clear hb hp1
  rcases HP1.out with ⟨hn, rfl⟩ | ⟨t, p, hpl, rfl, ht⟩
  · have HN := Aside0.mk hn
    clear hn HP1
    go_wp2_with fail
    refine HC.out.mono ?_
    rintro e w2 ⟨hb2, ⟨_, rfl⟩ | ⟨t2, p2, hp2, _⟩⟩
    · have HB2 := Aside0.mk (HB.out.trans (hb2.mono HB.out.size))
      clear hb2
      go_wp2_with fail
      refine (alive_calls _).mono ?_
      rintro e w3 ⟨rfl, hb3⟩
      have HB3 := Aside0.mk (HB2.out.trans (hb3.mono HB2.out.size))
      clear hb3
      go_wp2_with fail
      go_ret
      exact ⟨rfl, HB3.out⟩
    · have := HN.out
      rw [hp2] at this
      cases this
  have HPL := Aside0.mk hpl
  have HP := Aside0.mk ht.is
  have HT := Aside0.mk (ht.mono (G := fun k => w.heap.size ≤ k ∧ k < w1.heap.size) (fun k hk hlt => ⟨hk, hlt⟩))
  clear hpl ht HP1
  go_wp2_with fail
  refine HC.out.mono ?_
  rintro e w2 ⟨hb2, ⟨hn, _⟩ | ⟨t2, p2, hp2, rfl, ht2⟩⟩
  · have := HPL.out
    rw [hn] at this
    cases this
  obtain rfl : t = t2 := by have := HPL.out; rw [hp2] at this; injection this with this; exact this.symm
  have HB2 := Aside0.mk (HB.out.trans (hb2.mono HB.out.size))
  have H2 : Aside0 (Two w.heap.size w2 p t p2 t) := ⟨_, _, HT.out.below hb2, ht2, (fun k hk hg => by have := hk.2; have hg' : w1.heap.size ≤ k := hg; omega), (fun k hk => hk.1), fun k hk => Nat.le_trans HB.out.size hk⟩
  have HO := Aside0.mk HP.out.2.2
  clear hb2 ht2 hp2 HT HC HB HP HPL
  by_cases hla1 : 1000 < a.length
  · go_wp2_with fail
    refine (alive_calls _).mono ?_
    rintro e w3 ⟨rfl, hb3⟩
    have HB3 := Aside0.mk (HB2.out.trans (hb3.mono HB2.out.size))
    clear hb3
    go_wp2_with fail
    go_ret
    exact ⟨rfl, HB3.out⟩
  by_cases hlb1 : 1000 < b.length
  · go_wp2_with fail
    refine (alive_calls _).mono ?_
    rintro e w3 ⟨rfl, hb3⟩
    have HB3 := Aside0.mk (HB2.out.trans (hb3.mono HB2.out.size))
    clear hb3
    go_wp2_with fail
    go_ret
    exact ⟨rfl, HB3.out⟩
  have HLEN := Aside0.mk (And.intro hla1 hlb1)
  go_wp2_with (first
    | ((with_reducible refine gate_dst (N := 40) rfl ?_); at_builtin; refine app_bytes (W0 := w2) w2.heap.size rfl (.tmp 38) (.tmp 39) rfl (.slice none 0 0) [] a B a.length d rfl rfl (OB.nil _ _) (Kd.C_below HA.out HB2.out) (Below.refl _ _) (Nat.le_refl _) ?aL ?_; (case aL => simp; omega); intro v1 w3 ho1 hb1 _ _; rw [List.nil_append] at ho1; have HO1 := Aside0.mk ho1; have HB3 := Aside0.mk hb1; clear ho1 hb1)
    | ((with_reducible refine gate_dst (N := 43) rfl ?_); at_builtin; refine app_bytes (W0 := w2) w2.heap.size rfl (.tmp 41) (.tmp 42) rfl v1 a b D b.length x rfl rfl HO1.out (Kd.C_below HD.out (HB2.out.trans (HB3.out.mono HB2.out.size))) HB3.out HB3.out.size ?aL2 ?_; (case aL2 => omega); intro v2 w4 ho2 hb2 _ _; (obtain ⟨A2, c2, rfl, hr2⟩ := ho2.reads); have HR2 := Aside0.mk hr2; have HB4 := Aside0.mk (HB2.out.trans (hb2.mono HB2.out.size)); have H4 := Aside0.mk (H2.out.below hb2); clear ho2 hb2 hr2 HB3 HO1 H2 HB2))
  obtain ⟨ab, hab⟩ : ∃ ab, ab = a ++ b := ⟨_, rfl⟩
  have HABE := Aside0.mk hab
  have HABB : Aside0 (Bytes ab) := ⟨by rw [hab]; intro z hz; rcases List.mem_append.1 hz with h | h; exact HAB.out z h; exact HDB.out z h⟩
  rw [← hab] at HR2
  rw [show a.length + b.length = ab.length by rw [hab, List.length_append]]
  clear hab
  refine (H4.out.call HB4.out.size (fun F hF => append_calls _ p _ F A2 c2 ab hF HR2.out HABB.out)).mono ?_
  rintro e w5 ⟨rfl, h5, hg5, hb5⟩
  have H5 := Aside0.mk h5
  have HB5 := Aside0.mk (HB4.out.trans hb5)
  clear h5 hg5 hb5 H4 HR2
  go_wp2_with fail
  refine (H5.out.swap.call HB5.out.size (fun F hF => append_calls _ p2 _ F B d a hF (Kd.C_below HA.out HB5.out) HAB.out)).mono ?_
  rintro e w6 ⟨rfl, h6, hg6, hb6⟩
  have H6 := Aside0.mk h6
  have HB6 := Aside0.mk (HB5.out.trans hb6)
  clear h6 hg6 hb6 H5
  go_wp2_with fail
  refine (H6.out.call HB6.out.size (fun F hF => append_calls _ p2 _ F D x b hF (Kd.C_below HD.out HB6.out) HDB.out)).mono ?_
  rintro e w7 ⟨rfl, h7, hg7, hb7⟩
  have H7 := Aside0.mk h7
  have HB7 := Aside0.mk (HB6.out.trans hb7)
  clear h7 hg7 hb7 H6
  by_cases hf : t.room - t.bs.length < (a ++ b).length
  · obtain ⟨q1, q2⟩ := parts_full hf
    rw [← HABE.out] at q1
    rw [q1]
    clear hf
    rcases q2 with q2 | ⟨q2, q3⟩
    · rw [q2]
      obtain ⟨g, hg⟩ : ∃ g, g = ((t.append a).1.append b).2 := ⟨_, rfl⟩
      rw [← hg]
      clear q1 q2 hg
      go_wp2_with fail
      refine (alive_calls _).mono ?_
      rintro e w8 ⟨rfl, hb8⟩
      have HB8 := Aside0.mk (HB7.out.trans (hb8.mono HB7.out.size))
      clear hb8
      go_wp2_with fail
      go_ret
      exact ⟨rfl, HB8.out⟩
    · rw [q2, q3]
      clear q1 q2 q3
      go_wp2_with fail
      refine (alive_calls _).mono ?_
      rintro e w8 ⟨rfl, hb8⟩
      have HB8 := Aside0.mk (HB7.out.trans (hb8.mono HB7.out.size))
      clear hb8
      go_wp2_with fail
      go_ret
      exact ⟨rfl, HB8.out⟩
  · obtain ⟨q1, q2, q3⟩ := parts_fit HO.out hf
    rw [← HABE.out] at q1 q3
    obtain ⟨t2, ht2⟩ : ∃ t2 : TS, t2 = { t with bs := t.bs ++ ab } := ⟨_, rfl⟩
    rw [← ht2] at q1 q3
    have HU : Aside0 (∀ w8, Below w7.heap.size w7 w8 → Aside0 (Two w.heap.size w8 p t2 p2 t2)) := ⟨fun w8 h8 => ⟨by
      have := H7.out.swap
      rw [q1, q3] at this
      exact this.below h8⟩⟩
    rw [q1, q2, q3]
    obtain ⟨S, hS⟩ : ∃ S, S = strOfNums t2.bs := ⟨_, rfl⟩
    have HS := Aside0.mk hS
    clear hf q1 q2 q3 ht2 H7 hS
    go_wp2_with fail
    go_region_held_law (fun _ => True) (first | trivial | exact fun _ _ => trivial)
      (first | (go_at_call 11; refine (alive_calls _).mono ?_; rintro e wa ⟨rfl, hba⟩; have ha1 := HU.out _ ((below_drew (Below.refl w7.heap.size w7)).trans hba); have hW := Aside0.mk (HB7.out.trans (((below_drew (Below.refl w7.heap.size w7)).trans hba).mono HB7.out.size))) | (go_at_call_of 14 (Value.pointer (some ⟨p, 0, none⟩)); refine (bytes_calls _ p t2 _ (Two.fst (Aside0.out (by assumption)))).mono ?_; rintro e wb ⟨vp, rfl, hop, hbp⟩; have ha2 := Aside0.mk (Two.below (Aside0.out (by assumption)) hbp); have hsp := hop.string; rw [← HS.out] at hsp; (try (have hsq' := (hoq.below hbp).string; rw [← HS.out] at hsq')); have hWp := Aside0.mk (Below.trans (Aside0.out (by assumption)) (hbp.mono (Below.size (Aside0.out (by assumption)))))) | (go_at_call_of 14 (Value.pointer (some ⟨p2, 0, none⟩)); refine (bytes_calls _ p2 t2 _ (Two.fst (Two.swap (Aside0.out (by assumption))))).mono ?_; rintro e wc ⟨vq, rfl, hoq, hbq⟩; have ha3 := Aside0.mk (Two.below (Aside0.out (by assumption)) hbq); have hsq := hoq.string; rw [← HS.out] at hsq; (try (have hsp' := (hop.below hbq).string; rw [← HS.out] at hsp')); have hWq := Aside0.mk (Below.trans (Aside0.out (by assumption)) (hbq.mono (Below.size (Aside0.out (by assumption)))))) | (go_at_call_of 17 (Value.pointer (some ⟨p, 0, none⟩)); refine (forced_calls _ p t2 _ (Two.fst (Aside0.out (by assumption)))).mono ?_; rintro e wd ⟨rfl, rfl⟩) | (go_at_call_of 17 (Value.pointer (some ⟨p2, 0, none⟩)); refine (forced_calls _ p2 t2 _ (Two.fst (Two.swap (Aside0.out (by assumption))))).mono ?_; rintro e wd ⟨rfl, rfl⟩))
    all_goals
      go_wp2_with fail
      go_ret
      first | exact ⟨rfl, hWp.out⟩ | exact ⟨rfl, hWq.out⟩
end Go.Proofs.Ytcicehldhelmbaa.Oct
