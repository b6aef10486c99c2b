import Derived.Test.YtilogpjbdemceaaRecsI
import Derived.Test.YtilogpjbdemceaaRecsN
import Derived.Deep.CutRange
namespace Go.Proofs.Ytilogpjbdemceaa.Oct
open Go.RowKit Go.Proofs.YtilogpjbdemceaaW.PrintWords Go.Proofs.Ytilogpjbdemceaa.M
set_option linter.unusedVariables false
set_option linter.unusedSimpArgs false
abbrev textK : Kd (List Int) := Kd.slice 5 (Kd.int .u8)
/-- a text of a row of texts -/
theorem text_at {W : World} {A : Option Addr} {n : Nat} {l : List (List Int)} (h : textK.C W A n l) {k : Nat} (hk : k < n) :
    ∃ ad B c, A = some ad ∧ W.cell? (ad.add k) = some (.slice B (l.getD k []).length c) ∧ Kd.C (Kd.int .u8) W B (l.getD k []).length (l.getD k []) := by
  obtain ⟨ad, c, e, hs, hK, hcell⟩ := Kd.C_get h [] (k : Int) (by omega) (by omega)
  simp only [Int.toNat_natCast] at hK hcell
  obtain ⟨B, cc, rfl, hl, hr⟩ := hK
  have hsz : textK.sz = 1 := rfl
  have := hcell 0 _ rfl
  rw [hsz, Nat.mul_one, Nat.add_zero] at this
  exact ⟨ad, B, cc, e, this, hr⟩
theorem C_str {w : World} {A : Option Addr} {n c : Nat} {xs : List Int} (h : (Kd.int .u8).C w A n xs) : (convert 26 9 (.slice A n c)).run Try.prog w = .ok (.string (strOfNums xs)) w :=
  Kd.C_string Try.underlying26 Try.underlying5 Try.underlying9 h
theorem QB.string {W : World} {base : Nat} {v : Value} {xs : List Int} (h : QB W base v xs) : (convert 26 9 v).run Try.prog W = .ok (.string (strOfNums xs)) W := by
  obtain ⟨A, c, rfl, _, _, hr⟩ := h.form
  exact C_str hr
theorem OB.none_cap {W : World} {base : Nat} {A : Option Addr} {n c : Nat} {xs : List Int} (h : OB W base (.slice A n c) xs) (hx : 0 < xs.length) : A ≠ none := by
  rintro rfl
  rcases (QB.of_OB h).2 with ⟨_, h0⟩ | ⟨g, off, cap, cur, e, _⟩
  · omega
  · cases e
theorem recAll_bytes {rs : List (List Int)} (h : ∀ d ∈ rs, Bytes d) : Bytes (recAll rs) := by
  induction rs with
  | nil => exact Bytes.nil
  | cons d rs ih =>
    rw [recAll_cons]
    exact (recM_bytes (h d (List.mem_cons_self))).append (ih (fun x hx => h x (List.mem_cons_of_mem _ hx)))
theorem put_room2 {s : SS} {us : List Int} (he : s.ended = false) (h : s.held.length + us.length ≤ 65536) : SS.put s us = (⟨s.left, s.held ++ us, s.ended⟩, 0) := by
  unfold SS.put
  rw [if_neg (by rw [he]; simp), if_neg (by omega)]
abbrev Ap (w : World) (v : Value) : Nat → Prop := fun k => w.heap.size ≤ k ∧ v.ownBlock ≠ some k
theorem take_snoc {l : List (List Int)} {i : Nat} (h : i < l.length) : l.take (i + 1) = l.take i ++ [l.getD i []] := by
  rw [List.take_add_one, List.getElem?_eq_getElem h, List.getD_eq_getElem?_getD, List.getElem?_eq_getElem h]
  rfl
theorem app_ap {w1 W W' : World} {p : Nat} {s : SS} {v v1 : Value} (h : StreamAt W p s (Ap w1 v)) (hg : W.grownBy W' v.ownBlock) (hn : v1.ownBlock = v.ownBlock ∨ ∃ b, v1.ownBlock = some b ∧ W.heap.size ≤ b) : StreamAt W' p s (Ap w1 v1) := by
  have ht1 := h.mono (G := fun k => (w1.heap.size ≤ k ∧ k < W.heap.size) ∧ v.ownBlock ≠ some k) (fun k h1 h2 => ⟨⟨h1.1, h2⟩, h1.2⟩)
  refine (ht1.step (fun k h1 h2 => hg.block k h2 (fun e => h1.2 e.symm))).mono (fun k h1 h2 => ⟨h1.1.1, fun e => ?_⟩)
  rcases hn with h | ⟨b', h, hb'⟩
  · exact h1.2 (h ▸ e)
  · have h3 := h.symm.trans e
    injection h3 with h3
    have := h1.1.2
    omega
set_option maxRecDepth 200000 in
set_option maxHeartbeats 8000000 in
theorem rwhole_small (w : World) (l : List (List Int)) (cuts takes : List Int) (A B D : Option Addr) (ca cb cd : Nat) (h : textK.C w A l.length l) (hb : ∀ x ∈ l, Bytes x) (hc : Kd.C (Kd.int .i64) w B cuts.length cuts) (ht : Kd.C (Kd.int .i64) w D takes.length takes) (h12 : l.length ≤ 12) :
    Calls Try.prog 5 #[.slice A l.length ca, .slice B cuts.length cb, .slice D takes.length cd] w (Yes w) := by
  have HL := Aside0.mk h
  have HBB := Aside0.mk hb
  have HC := Aside0.mk hc
  have HT := Aside0.mk ht
  have hcl : cuts.length ≤ 9223372036854775807 := hc.2.1
  have htl : takes.length ≤ 9223372036854775807 := ht.2.1
  have h12' : (l.length : Int) ≤ 12 := by omega
  clear h hb hc ht
  go_enter Try.func5, Try.ntmps5
  go_wp2_with fail
  go_loopw [7, 8] (fun v7 v8 wr => ∃ (i : Nat), i ≤ l.length ∧ v8 = .int .i64 i ∧ Aside0 (Below w.heap.size w wr) ∧ Aside0 (OB wr w.heap.size v7 (recAll (l.take i))) ∧ Aside0 (∀ d ∈ l.take i, d.length ≤ 200)) (fun _ v _ => l.length - (intOf v).toNat)
  case atStart => exact ⟨0, by omega, rfl, ⟨Below.refl _ _⟩, ⟨OB.nil _ _⟩, ⟨fun d h => by simp at h⟩⟩
  case round =>
    obtain ⟨i, hi, rfl, HB, HO, HS⟩ := hrel
    by_cases hlt : i < l.length
    · obtain ⟨ad, B1, d1, rfl, hcell, hC⟩ := text_at HL.out hlt
      have HTS := Aside0.mk (take_snoc hlt)
      obtain ⟨q, hq⟩ : ∃ q, q = l.getD i [] := ⟨_, rfl⟩
      rw [← hq] at hcell hC HTS
      have hcell := (HB.out.cell (World.block_lt_of_cell? _ _ hcell)).trans hcell
      have HQC := Aside0.mk hC
      have hqi : q.length ≤ 9223372036854775807 := hC.2.1
      obtain ⟨A7, c7, rfl, _⟩ := HO.out.reads
      have HRL : Aside0 ((recAll (l.take i)).length ≤ 2424) := ⟨by have := recAll_len HS.out; have h2 : (l.take i).length ≤ 12 := by simp; omega
                                                                   omega⟩
      obtain ⟨rs, hrs⟩ : ∃ rs, rs = recAll (l.take i) := ⟨_, rfl⟩
      have HRS := Aside0.mk hrs
      rw [← hrs] at HO HRL ⊢
      obtain ⟨n7, hn7⟩ : ∃ n7, n7 = rs.length := ⟨_, rfl⟩
      have HN7 := Aside0.mk hn7
      rw [← hn7] at HO ⊢
      clear hq hC hrs hn7
      by_cases h200 : 200 < (q.length : Int)
      · go_wp2_with fail
        refine (salive_calls _).mono ?_
        rintro e w3 ⟨rfl, hb3⟩
        have HB3 := Aside0.mk (HB.out.trans (hb3.mono HB.out.size))
        clear hb3
        go_wp2_with fail
        go_ret
        exact ⟨rfl, HB3.out⟩
      · have h200' : (q.length : Int) ≤ 200 := by omega
        have HQL : Aside0 (q.length ≤ 200) := ⟨by omega⟩
        clear h200
        go_wp2_with fail
        refine (swrite_calls _ B1 d1 q (Kd.C_below HQC.out HB.out) (by have := HQL.out; omega)).mono ?_
        rintro e w3 ⟨v3, rfl, ho3, hb3⟩
        rw [(recM_short HQL.out).1]
        have HRM := Aside0.mk (recM_short HQL.out).2.1
        obtain ⟨rc, hrc⟩ : ∃ rc, rc = (recM q).1 := ⟨_, rfl⟩
        have HRC := Aside0.mk hrc
        rw [← hrc] at ho3 HRM
        obtain ⟨A3, c3, rfl, hr3⟩ := ho3.reads
        have HR3 := Aside0.mk hr3
        have HO3 := Aside0.mk (HO.out.below hb3)
        have HB3 := Aside0.mk (HB.out.trans (hb3.mono HB.out.size))
        obtain ⟨n3, hn3⟩ : ∃ n3, n3 = rc.length := ⟨_, rfl⟩
        have HN3 := Aside0.mk hn3
        rw [← hn3] at HR3 ⊢
        clear hrc ho3 hb3 hr3 hn3
        go_wp2_with ((with_reducible refine gate_dst (N := 51) rfl ?_); at_builtin; refine app_bytes (W0 := w) w.heap.size rfl (.tmp 49) (.tmp 50) rfl _ rs rc A3 n3 c3 rfl rfl HO3.out HR3.out HB3.out HB3.out.size ?aL ?_; (case aL => have := HN3.out; have := HRM.out; have := HRL.out; have := HQL.out; omega); intro v1 w4 ho hb _ _; have HO4 := Aside0.mk ho; have HB4 := Aside0.mk hb; clear ho hb)
        refine ⟨⟨i + 1, by omega, by go_num, HB4, ⟨?_⟩, ⟨?_⟩⟩, by simp [intOf]; omega⟩
        · rw [HTS.out, recAll_snoc, ← HRS.out, ← HRC.out]; exact HO4.out
        · intro d hd
          rw [HTS.out] at hd
          rcases List.mem_append.1 hd with h | h
          · exact HS.out d h
          · obtain rfl : d = q := by simpa using h
            exact HQL.out
    · obtain rfl : i = l.length := by omega
      rw [List.take_length] at HO HS
      obtain ⟨A7, c7, rfl, hcc7, hrb⟩ := HO.out.rb
      have HZ1 : Aside0 (Kd.C (Kd.int .u8) wr A7 (recAll l).length (recAll l) ∧ Bytes (recAll l)) := ⟨hrb.1, recAll_bytes HBB.out⟩
      have HNN : Aside0 (A7 = none → l.length = 0) := ⟨fun e => by
        by_cases h0 : l.length = 0
        · exact h0
        · exfalso
          refine OB.none_cap HO.out ?_ e
          obtain ⟨d, l', hl'⟩ : ∃ d l', l = d :: l' := by
            match l with
            | [] => simp at h0
            | d :: l' => exact ⟨d, l', rfl⟩
          rw [hl', recAll_cons, List.length_append, (recM_short (HS.out d (by rw [hl']; exact List.mem_cons_self))).2.1]
          omega⟩
      have HZL : Aside0 ((recAll l).length ≤ 2424) := ⟨by have := recAll_len HS.out; omega⟩
      have HI0 : Aside0 (Inv l 0 ⟨0, [], false⟩ (recAll l) []) := ⟨Inv.start l⟩
      obtain ⟨z0, hz0⟩ : ∃ z0, z0 = recAll l := ⟨_, rfl⟩
      rw [← hz0] at HZ1 HZL HI0 hcc7 ⊢
      have HL1 := Aside0.mk (Kd.C_below HL.out HB.out)
      have HC1 := Aside0.mk (Kd.C_below HC.out HB.out)
      have HT1 := Aside0.mk (Kd.C_below HT.out HB.out)
      clear hz0 hrb hlt hi
      obtain ⟨w1, hw1⟩ : ∃ w1, w1 = wr := ⟨_, rfl⟩
      subst hw1
      go_wp2_with fail
      refine (snew_at _).mono ?_
      rintro e w2 ⟨rfl, hs2, hb2⟩
      obtain ⟨p, hp⟩ : ∃ p, p = w1.heap.size := ⟨_, rfl⟩
      have HS2 : Aside0 (StreamAt w2 p ⟨0, [], false⟩ (Ap w1 (.slice none 0 0))) := ⟨by rw [hp]; exact hs2.mono (fun k h _ => ⟨by rw [h]; exact Nat.le_refl _, fun e => (nomatch e)⟩)⟩
      have HB2 := Aside0.mk hb2
      rw [← hp]
      clear hs2 hb2 hp
      go_wp2_with fail
      obtain ⟨M, hMM⟩ : ∃ M : Nat, M = 4848 := ⟨_, rfl⟩
      have HMM := Aside0.mk hMM
      clear hMM
      go_loopw [7, 12, 13, 14] (fun v7 v12 v13 v14 wr => ∃ (i n : Nat) (A' : Option Addr) (c' : Nat) (zs pc : List Int) (s : SS), n ≤ l.length ∧ Aside0 (i ≤ M) ∧ v7 = .slice A' zs.length c' ∧ zs.length ≤ c' ∧ v12 = .int .i64 n ∧ v14 = .int .i64 i ∧ Aside0 (i + zs.length + (s.held.length + zs.length) ≤ M) ∧ Aside0 (A' = none → l.length = 0) ∧ Aside0 (Kd.C (Kd.int .u8) w1 A' zs.length zs ∧ Bytes zs) ∧ Aside0 (Below w1.heap.size w1 wr) ∧ Aside0 (QB wr w1.heap.size v13 pc) ∧ Aside0 (StreamAt wr p s (Ap w1 v13)) ∧ Aside0 (Inv l n s zs pc)) (fun _ _ _ v _ => M - (intOf v).toNat)
      case atStart => exact ⟨0, 0, A7, c7, z0, [], ⟨0, [], false⟩, by omega, ⟨by omega⟩, rfl, hcc7, rfl, rfl, ⟨by have := HZL.out; have := HMM.out; simp; omega⟩, HNN, HZ1, HB2, ⟨QB.nil _ _⟩, HS2, HI0⟩
      case round =>
        obtain ⟨i, n, A', c', zs, pc, s, hn, HI6, rfl, hzc, rfl, rfl, HM, HAN, HZ, HBr, HV, HP, HI⟩ := hrel
        by_cases hlt : n < l.length
        · cases A' with
          | none => exact absurd (HAN.out rfl) (by omega)
          | some ad' =>
            clear HAN
            have hil : (i : Int) < 6000 := by have := HI6.out; have := HMM.out; omega
            have hil2 : (i : Int) ≤ 4848 := by have := HI6.out; have := HMM.out; omega
            have hzl : (zs.length : Int) ≤ 2424 := by have := HM.out; have := HMM.out; omega
            have hnl : (n : Int) < (l.length : Int) := by omega
            go_upto_if 68 with (fail)
            go_cut [15] from 55 to 129 (fun v15 wx => ∃ k : Nat, 1 ≤ k ∧ k ≤ 32 ∧ v15 = .int .i64 k ∧ wr = wx)
            case first =>
              by_cases hcu : i < cuts.length
              · obtain ⟨ad, rfl, hcell⟩ := C_num (Kd.C_below HC1.out HBr.out) hcu
                obtain ⟨x, hx⟩ : ∃ x, x = cuts.getD i 0 := ⟨_, rfl⟩
                rw [← hx] at hcell
                clear hx
                have hand := i64_and31 x
                obtain ⟨m, hm⟩ : ∃ m : Nat, (m : Int) = x % 32 := ⟨(x % 32).toNat, by omega⟩
                have hm32 : m < 32 := by omega
                rw [← hm] at hand
                clear hm
                go_wp2_with fail
                go_meet
                exact ⟨m + 1, by omega, by omega, by go_num, rfl⟩
              · go_wp2_with fail
                go_meet
                exact ⟨5, by omega, by omega, rfl, rfl⟩
            case rest =>
              obtain ⟨k, hk1, hk32, rfl, rfl⟩ := hcut
              go_upto_if 78 with (fail)
              go_cut [15] from 55 to 129 (fun v15 wx => ∃ us vs : List Int, Aside0 (zs = us ++ vs) ∧ v15 = .int .i64 us.length ∧ Aside0 (vs.length < zs.length ∨ zs.length = 0) ∧ wr = wx)
              case first =>
                by_cases hkz : k ≤ zs.length
                · have hkz' : ¬ (zs.length : Int) < (k : Int) := by omega
                  go_wp2_with fail
                  go_meet
                  exact ⟨zs.take k, zs.drop k, ⟨(List.take_append_drop _ _).symm⟩, by rw [take_form hkz], ⟨by rw [List.length_drop]; omega⟩, rfl⟩
                · have hkz' : (zs.length : Int) < (k : Int) := by omega
                  go_wp2_with fail
                  go_meet
                  exact ⟨zs, [], ⟨(List.append_nil _).symm⟩, rfl, ⟨by show 0 < zs.length ∨ zs.length = 0; omega⟩, rfl⟩
              case rest =>
                obtain ⟨us, vs, HZS, rfl, HPG, rfl⟩ := hcut
                have HUS : Aside0 (Kd.C (Kd.int .u8) w1 (some ad') us.length us) := ⟨by have := HZ.out.1; rw [HZS.out] at this; exact C_left this⟩
                have HVS : Aside0 (Kd.C (Kd.int .u8) w1 (some (ad'.add us.length)) vs.length vs) := ⟨by have := HZ.out.1; rw [HZS.out] at this; exact C_right this⟩
                have HUB : Aside0 (Bytes us ∧ Bytes vs) := ⟨by have := HZ.out.2; rw [HZS.out] at this; exact ⟨fun x hx => this x (List.mem_append_left _ hx), fun x hx => this x (List.mem_append_right _ hx)⟩⟩
                have HI2 : Aside0 (Inv l n s (us ++ vs) pc) := ⟨by rw [← HZS.out]; exact HI.out⟩
                have HNL : Aside0 (zs.length = us.length + vs.length) := ⟨by rw [HZS.out, List.length_append]⟩
                have HPL : Aside0 (pc.length ≤ 2424 ∧ s.held.length + us.length ≤ 2424) := ⟨by
                  have h1 := congrArg List.length HI2.out.eq
                  simp only [List.length_append] at h1
                  have h2 := recAll_len (rs := l.drop n) (fun d hd => HS.out d (List.mem_of_mem_drop hd))
                  rw [List.length_drop] at h2
                  omega⟩
                obtain ⟨N, hN⟩ : ∃ N, N = zs.length := ⟨_, rfl⟩
                rw [← hN] at hzc hzl HM HPG HNL ⊢
                have hun' : (us.length : Int) ≤ (N : Int) := by have := HNL.out; omega
                have hnc : (N : Int) ≤ (c' : Int) := by omega
                have huc : (us.length : Int) ≤ (c' : Int) := by omega
                have HCC : Aside0 (us.length = c' ∨ us.length ≠ c') := ⟨by omega⟩
                clear hN
                go_wp2_with fail
                refine (sput_calls _ p s _ (some ad') c' us HP.out (Kd.C_below HUS.out HBr.out) HUB.out.1).mono ?_
                rw [put_room2 HI.out.ended (by have := HPL.out.2; omega)]
                rintro e w4 ⟨rfl, hs4, hk4⟩
                have HP4 : Aside0 (StreamAt w4 p ⟨s.left, s.held ++ us, s.ended⟩ (Ap w1 u13)) := ⟨hs4.mono (fun k h _ => h.elim id (fun h => ⟨Nat.le_trans HBr.out.size h, fun e => by
                  have h : wr.heap.size ≤ k := h
                  have := (HV.out.block e).2
                  omega⟩))⟩
                have HB4 := Aside0.mk (below_kept HBr.out hk4 HBr.out.size (fun k h => h.1))
                have HV4 := Aside0.mk (HV.out.move (fun k e => hk4.block k (HV.out.block e).2 (fun h => h.2 e)))
                have HI4 := Aside0.mk HI2.out.put
                have HLN : Aside0 ((SS.mk s.left (s.held ++ us) s.ended).held.length = s.held.length + us.length) := ⟨List.length_append⟩
                obtain ⟨s4, hs4e⟩ : ∃ s4 : SS, s4 = ⟨s.left, s.held ++ us, s.ended⟩ := ⟨_, rfl⟩
                rw [← hs4e] at HP4 HI4 HLN
                clear hs4 hk4 hs4e HI HI2 HP HV HZ
                go_upto_region 27 with (fail)
                go_cut [7] from 55 to 129 (fun v7 wx => ∃ (A2 : Addr) (c2 : Nat), v7 = .slice (some A2) vs.length c2 ∧ vs.length ≤ c2 ∧ Aside0 (Kd.C (Kd.int .u8) w1 (some A2) vs.length vs) ∧ w4 = wx)
                case first =>
                  rcases HCC.out with hc | hc
                  · have hvl : vs = [] := List.eq_nil_of_length_eq_zero (by have := HNL.out; omega)
                    have HVL := Aside0.mk hvl
                    subst hc
                    clear hvl
                    go_wp2_with fail
                    go_meet
                    refine ⟨ad', 0, ?_, by rw [HVL.out]; simp, ⟨by rw [HVL.out]; exact C_take HUS.out 0 (Nat.zero_le _)⟩, rfl⟩
                    have hvl := HVL.out
                    have := HNL.out
                    rw [hvl] at this ⊢
                    simp at this ⊢
                    try omega
                  · go_wp2_with fail
                    go_meet
                    have hvl : N - us.length = vs.length := by have := HNL.out; omega
                    refine ⟨ad'.add us.length, c' - us.length, ?_, by omega, HVS, rfl⟩
                    first | rw [hvl] | (simp; omega)
                case rest =>
                  obtain ⟨A2, c2, rfl, hvc, HVC, rfl⟩ := hcut
                  go_upto_if 93 with (fail)
                  go_cut [16] from 55 to 129 (fun v16 wx => ∃ t : Nat, 1 ≤ t ∧ t ≤ 16 ∧ v16 = .int .i64 t ∧ w4 = wx)
                  case first =>
                    by_cases hcu : i < takes.length
                    · obtain ⟨ad, rfl, hcell⟩ := C_num (Kd.C_below HT1.out HB4.out) hcu
                      obtain ⟨x, hx⟩ : ∃ x, x = takes.getD i 0 := ⟨_, rfl⟩
                      rw [← hx] at hcell
                      clear hx
                      have hand := i64_and15 x
                      obtain ⟨m, hm⟩ : ∃ m : Nat, (m : Int) = x % 16 := ⟨(x % 16).toNat, by omega⟩
                      have hm32 : m < 16 := by omega
                      rw [← hm] at hand
                      clear hm
                      go_wp2_with fail
                      go_meet
                      exact ⟨m + 1, by omega, by omega, by go_num, rfl⟩
                    · go_wp2_with fail
                      go_meet
                      exact ⟨7, by omega, by omega, rfl, rfl⟩
                  case rest =>
                    obtain ⟨t, ht1, ht16, rfl, rfl⟩ := hcut
                    go_wp2_with fail
                    refine (sget_calls _ p s4 _ t HP4.out (by omega)).mono ?_
                    rintro e w5 ⟨v5, rfl, hs5, ho5, hk5⟩
                    obtain ⟨A5, c5, rfl, hr5⟩ := ho5.reads
                    have HR5 := Aside0.mk hr5
                    have HP5 := Aside0.mk hs5
                    have HB5 := Aside0.mk (below_kept HB4.out hk5 HB4.out.size (fun k h => h.1))
                    have HV5 := Aside0.mk (HV4.out.move (fun k e => hk5.block k (HV4.out.block e).2 (fun h => h.2 e)))
                    have hg := HI4.out.get hlt HS.out (t := t) (by omega)
                    have hole : (s4.get t).out.length ≤ 65536 := by have := (hs5.is.2.2).2.1; have := (SS.get_out HP4.out.is.2.2 t).1; omega
                    obtain ⟨er, her⟩ : ∃ er, er = (s4.get t).err := ⟨_, rfl⟩
                    obtain ⟨wb, hwb⟩ : ∃ wb, wb = (s4.get t).whole := ⟨_, rfl⟩
                    obtain ⟨s5, hs5e⟩ : ∃ s5, s5 = (s4.get t).st := ⟨_, rfl⟩
                    obtain ⟨xs, hxs⟩ : ∃ xs, xs = (s4.get t).out := ⟨_, rfl⟩
                    rw [← her, ← hwb, ← hs5e, ← hxs] at hg
                    rw [← hxs] at hole HR5
                    rw [← hs5e] at HP5
                    rw [← her, ← hwb, ← hxs]
                    obtain ⟨n5, hn5⟩ : ∃ n5, n5 = xs.length := ⟨_, rfl⟩
                    have HN5 := Aside0.mk hn5
                    have HOL := Aside0.mk hole
                    rw [← hn5] at HR5 ⊢
                    clear her hwb hs5e hxs hr5 hs5 ho5 hk5 hn5 hole HP4 HV4
                    rcases hg with ⟨he, hst, hout, hR⟩ | ⟨he, h0, hln, hwh⟩
                    · have HST := Aside0.mk hst
                      have HRR := Aside0.mk hR
                      rw [he]
                      clear he hst hout hR
                      go_wp2_with fail
                      refine ⟨⟨i + 1, n, some A2, c2, vs, pc, s4, by omega, ⟨?_⟩, rfl, hvc, rfl, by go_num, ⟨?_⟩, ⟨fun h => by cases h⟩, ⟨HVC.out, HUB.out.2⟩, HB5, HV5, ⟨by rw [← HST.out]; exact HP5.out⟩, HI4⟩, ?_⟩
                      · have := HM.out; have := HNL.out; have := HPG.out; have := HRR.out; have := HLN.out; omega
                      · have := HM.out; have := HNL.out; have := HPG.out; have := HRR.out; have := HLN.out; omega
                      · have := HM.out; have := HNL.out; have := HPG.out; have := HRR.out; have := HLN.out; simp [intOf]; omega
                    · have HG := Aside0.mk (And.intro h0 hln)
                      rw [he]
                      rcases hwh with ⟨hw, hi5⟩ | ⟨hw, hq5, hi5⟩
                      · rw [hw]
                        have HI5 := Aside0.mk hi5
                        clear he h0 hln hw hi5
                        go_wp2_with ((with_reducible refine gate_dst (N := 113) rfl ?_); at_builtin; refine app_q w1.heap.size rfl (.tmp 111) (.tmp 112) rfl _ pc xs A5 n5 c5 HN5.out rfl rfl HV5.out (by have := HR5.out; rw [HN5.out] at this; exact this) HB5.out.size (by have := HPL.out.1; have := HOL.out; omega) ?_; intro v1 w6 ho1 hg1 hn1; have HO6 := Aside0.mk ho1; have HP6 := Aside0.mk (app_ap HP5.out hg1 hn1); have hb6 := HB5.out.grown hg1 HB5.out.size (fun k e => (HV5.out.block e).1); have HB6 := Aside0.mk hb6; clear ho1 hg1 hn1 hb6)
                        refine ⟨⟨i + 1, n, some A2, c2, vs, pc ++ xs, s5, by omega, ⟨?_⟩, rfl, hvc, rfl, by go_num, ⟨?_⟩, ⟨fun h => by cases h⟩, ⟨HVC.out, HUB.out.2⟩, HB6, HO6, HP6, HI5⟩, ?_⟩
                        · have := HM.out; have := HNL.out; have := HPG.out; have := HG.out.1; have := HG.out.2; have := HLN.out; have := HN5.out; omega
                        · have := HM.out; have := HNL.out; have := HPG.out; have := HG.out.1; have := HG.out.2; have := HLN.out; have := HN5.out; omega
                        · have := HM.out; have := HNL.out; have := HPG.out; have := HG.out.1; have := HG.out.2; have := HLN.out; have := HN5.out; simp [intOf]; omega
                      · rw [hw]
                        have HI5 := Aside0.mk hi5
                        have HQ5 := Aside0.mk hq5
                        clear he h0 hln hw hi5 hq5
                        obtain ⟨adl, Bq, dq, rfl, hcell, hCq⟩ := text_at HL1.out hlt
                        have HQL : Aside0 ((l.getD n []).length ≤ 200) := ⟨by
                          rw [List.getD_eq_getElem?_getD, List.getElem?_eq_getElem hlt]
                          exact HS.out _ (List.getElem_mem hlt)⟩
                        obtain ⟨q, hq⟩ : ∃ q, q = l.getD n [] := ⟨_, rfl⟩
                        rw [← hq] at hcell hCq HQ5 HQL
                        have HQC := Aside0.mk hCq
                        have hql : q.length ≤ 9223372036854775807 := hCq.2.1
                        have HCL : Aside0 (∀ W, Below w1.heap.size w1 W → W.cell? (adl.add n) = some (.slice Bq q.length dq)) := ⟨fun W hW => (hW.cell (World.block_lt_of_cell? _ _ hcell)).trans hcell⟩
                        clear hcell hCq hq
                        go_wp2_with ((with_reducible refine gate_dst (N := 113) rfl ?_); at_builtin; refine app_q w1.heap.size rfl (.tmp 111) (.tmp 112) rfl _ pc xs A5 n5 c5 HN5.out rfl rfl HV5.out (by have := HR5.out; rw [HN5.out] at this; exact this) HB5.out.size (by have := HPL.out.1; have := HOL.out; omega) ?_; intro v1 w6 ho1 hg1 hn1; have HO6 := Aside0.mk ho1; have HP6 := Aside0.mk (app_ap HP5.out hg1 hn1); have hb6 := HB5.out.grown hg1 HB5.out.size (fun k e => (HV5.out.block e).1); have hcell6 := HCL.out _ hb6; have HB6 := Aside0.mk hb6; clear ho1 hg1 hn1 hb6)
                        refine (swrite_calls _ Bq dq q (Kd.C_below HQC.out HB6.out) (by have := HQL.out; omega)).mono ?_
                        rintro e w7 ⟨v7, rfl, ho7, hb7⟩
                        rw [(recM_short HQL.out).1]
                        obtain ⟨A7', c7', rfl, _⟩ := ho7.reads
                        have hs1 := (HO6.out.below hb7).string
                        have hs2 := ho7.string
                        rw [HQ5.out] at hs1
                        have HP7 : Aside0 (StreamAt w7 p s5 (Ap w1 (.slice none 0 0))) := ⟨(HP6.out.below hb7).mono (fun k h _ => ⟨h.1, fun e => (nomatch e)⟩)⟩
                        have HB7 := Aside0.mk (HB6.out.trans (hb7.mono HB6.out.size))
                        obtain ⟨str, hstr⟩ : ∃ str, str = strOfNums (recM q).1 := ⟨_, rfl⟩
                        obtain ⟨m7, hm7⟩ : ∃ m7, m7 = (recM q).1.length := ⟨_, rfl⟩
                        rw [← hstr] at hs1 hs2
                        rw [← hm7] at hs2 ⊢
                        clear ho7 hb7 hstr hm7 hcell6
                        go_wp2_with fail
                        refine ⟨⟨i + 1, n + 1, some A2, c2, vs, [], s5, by omega, ⟨?_⟩, rfl, hvc, by go_num, by go_num, ⟨?_⟩, ⟨fun h => by cases h⟩, ⟨HVC.out, HUB.out.2⟩, HB7, ⟨QB.nil _ _⟩, HP7, HI5⟩, ?_⟩
                        · have := HM.out; have := HNL.out; have := HPG.out; have := HG.out.1; have := HG.out.2; have := HLN.out; have := HN5.out; omega
                        · have := HM.out; have := HNL.out; have := HPG.out; have := HG.out.1; have := HG.out.2; have := HLN.out; have := HN5.out; omega
                        · have := HM.out; have := HNL.out; have := HPG.out; have := HG.out.1; have := HG.out.2; have := HLN.out; have := HN5.out; simp [intOf]; omega
        · obtain rfl : n = l.length := by omega
          have hil : (i : Int) < 6000 := by have := HI6.out; have := HMM.out; omega
          obtain ⟨hsh, rfl⟩ := HI.out.done
          have HSH := Aside0.mk hsh
          simp only [List.length_nil] at hzc ⊢
          clear hsh hn hlt HAN
          go_wp2_with fail
          refine (salive_calls _).mono ?_
          rintro e w3 ⟨rfl, hb3⟩
          have HP3 := Aside0.mk (HP.out.below hb3)
          have HB3 := Aside0.mk (HB.out.trans ((HBr.out.trans (hb3.mono HBr.out.size)).mono HB.out.size))
          clear hb3
          go_wp2_with fail
          refine (sheld_calls _ p _ _ HP3.out).mono ?_
          rw [HSH.out]
          rintro e w4 ⟨rfl, rfl⟩
          simp only [List.length_nil]
          go_wp2_with fail
          go_ret
          exact ⟨rfl, HB3.out⟩
set_option maxHeartbeats 2000000 in
theorem rwhole_calls (w : World) (l : List (List Int)) (cuts takes : List Int) (A B D : Option Addr) (ca cb cd : Nat) (h : textK.C w A l.length l) (hb : ∀ x ∈ l, Bytes x) (hc : Kd.C (Kd.int .i64) w B cuts.length cuts) (ht : Kd.C (Kd.int .i64) w D takes.length takes) :
    Calls Try.prog 5 #[.slice A l.length ca, .slice B cuts.length cb, .slice D takes.length cd] w (Yes w) := by
  by_cases h12 : l.length ≤ 12
  · exact rwhole_small w l cuts takes A B D ca cb cd h hb hc ht h12
  · have h12' : 12 < (l.length : Int) := by omega
    have hll : l.length ≤ 9223372036854775807 := h.2.1
    clear h12
    go_enter Try.func5, Try.ntmps5
    go_wp2_with fail
    refine (salive_calls _).mono ?_
    rintro e w7 ⟨rfl, hb7⟩
    have HB7 := Aside0.mk hb7
    clear hb7
    go_wp2_with fail
    go_ret
    exact ⟨rfl, HB7.out⟩
end Go.Proofs.Ytilogpjbdemceaa.Oct
