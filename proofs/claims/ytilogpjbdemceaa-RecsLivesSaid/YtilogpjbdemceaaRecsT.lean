import Derived.Test.YtilogpjbdemceaaRecsS
import Derived.Test.YtilogpjbdemceaaRecsH
namespace Go.Proofs.Ytilogpjbdemceaa.Oct
open Go.RowKit Go.Proofs.YtilogpjbdemceaaW.PrintWords Go.Proofs.Ytilogpjbdemceaa.M
set_option linter.unusedVariables false
set_option linter.unusedSimpArgs false
theorem Pr.up {base p x L M : Nat} {W : World} {s t : SS} {ex : Nat → Prop} (h : Pr base W p x s t L ex) (hl : L ≤ M) : Pr base W p x s t M ex := by
  obtain ⟨F, G, h1, h2, h3, h4, h5, h6⟩ := h
  exact ⟨F, G, h1, h2, h3, h4, h5, h6.up hl⟩
/-- bytes of one's own above a mark, and one of them stored -/
theorem own_put {W : World} {top m c : Nat} {A : Option Addr} (h : ∃ zs : List Int, zs.length = m ∧ Bytes zs ∧ OB W top (.slice A m c) zs) {k : Nat} (hk : k < m) :
    ∃ g z, A = some ⟨g, 0, none⟩ ∧ top ≤ g ∧ 0 ≤ z ∧ z < 256 ∧ W.cell? ⟨g, k, none⟩ = some (.int .u8 z) ∧ W.frozen? ⟨g, k, none⟩ = false ∧ ∀ x, Byte x → ∃ zs : List Int, zs.length = m ∧ Bytes zs ∧ OB (W.setCell ⟨g, k, none⟩ (.int .u8 x)) top (.slice A m c) zs := by
  obtain ⟨zs, hl, hb, ho⟩ := h
  have ho' : W.ownsRow top 5 1 (.slice A m c) m (nums .u8 zs) := by unfold OB at ho; rwa [hl] at ho
  rcases ho'.2 with ⟨_, h0⟩ | ⟨g, cap, cur, hv, hg, _⟩
  · omega
  injection hv with hA _ hcap
  subst hA
  obtain ⟨hc, hf⟩ := own_at ho' (k : Int) (by omega) (by omega)
  rw [Int.toNat_natCast] at hc hf
  obtain ⟨A', c', e, hr⟩ := ho.reads
  injection e with e1 e2 e3
  obtain ⟨ad, e, hz⟩ := C_byte hr (k := k) (by omega)
  rw [← e1] at e
  injection e with e
  subst e
  rw [Addr.add_lit, Nat.zero_add] at hz
  refine ⟨g, zs.getD k 0, rfl, hg, (hb.getD k).1, (hb.getD k).2, hz, hf, fun x hx => ⟨zs.set k x, by simp [hl], fun y hy => ?_, ?_⟩⟩
  · rcases List.mem_or_eq_of_mem_set hy with h | h
    · exact hb y h
    · rw [h]; exact hx
  · have hp := own_store ho' (k : Int) x
    rw [Int.toNat_natCast] at hp
    have := hp.1
    unfold OB
    rw [List.length_set, hl]
    exact this
theorem pr_set {base p x L g k : Nat} {W : World} {s t : SS} {ex : Nat → Prop} {v : Value} (h : Pr base W p x s t L ex) (hg : ex g) : Pr base (W.setCell ⟨g, k, none⟩ v) p x s t L ex :=
  h.step (grown_set W g k v).size (fun j hj hn => (grown_set W g k v).block j hj (fun e => by injection e with e; exact hn (e ▸ hg)))
theorem cells3 {W : World} {b : Nat} {x y z : Value} {t : TypeId} (h : W.heap[b]? = some (.cells #[x, y, z] t (0, 0))) :
    W.cell? ⟨b, 0, none⟩ = some x ∧ W.cell? ⟨b, 1, none⟩ = some y ∧ W.cell? ⟨b, 2, none⟩ = some z := by
  refine ⟨?_, ?_, ?_⟩ <;> simp [World.cell?, h]
theorem xor_ff {z : Int} (h0 : 0 ≤ z) (h : z < 256) : ∃ y, Go.bits .xor .u8 z 255 = y ∧ Byte y := by
  refine ⟨_, u8_xor h0 h (by decide) (by decide), by omega, ?_⟩
  have := xor_byte (a := z.toNat) (b := (255 : Int).toNat) (by omega) (by decide)
  omega
set_option maxRecDepth 200000 in
set_option maxHeartbeats 8000000 in
theorem rlives_calls (w : World) (l : List OpS) (A : Option Addr) (c : Nat) (h : opK.C w A l.length l) (ho : ∀ o ∈ l, OpS.ok o) :
    Calls Try.prog 9 #[.slice A l.length c] w (Yes w) := by
  have HL := Aside0.mk h
  have HOK := Aside0.mk ho
  have hll : l.length ≤ 9223372036854775807 := h.2.1
  clear h ho
  go_enter Try.func9, Try.ntmps9
  go_wp2_with fail
  refine (snew_at _).mono ?_
  rintro e w1 ⟨rfl, ht, hb⟩
  obtain ⟨p, hp⟩ : ∃ p, p = w.heap.size := ⟨_, rfl⟩
  obtain ⟨x, hx⟩ : ∃ x, x = w1.heap.size := ⟨_, rfl⟩
  obtain ⟨w2, hw2⟩ : ∃ w2, w2 = w1.alloc (.cells #[.slice none 0 0, .int .i64 0, .int .i64 0, .bool false] 60) := ⟨_, rfl⟩
  have hb2 : Below w1.heap.size w1 w2 := by rw [hw2]; exact below_alloc (Below.refl _ _) _
  have hpx : p < x := by have := ht.is.1; omega
  have hxl : x < w2.heap.size := by rw [hw2, hx]; simp
  have HP2 : Aside0 (Pr w.heap.size w2 p x ⟨0, [], false⟩ ⟨0, [], false⟩ (70000 * 0) (fun _ => False)) := ⟨fun k => k = p, fun k => k = x, fun k h h' => by omega, fun k h => ⟨by omega, by omega, fun e => e⟩, fun k h => ⟨by omega, by omega, fun e => e⟩, fun k h => h.elim,
    by rw [hp]; exact ht.below hb2, ⟨_, [], by rw [hw2, hx]; exact heap_alloc_new w1 _, QB.nil _ _, rfl, fun k h => (nomatch h), ⟨by decide, by decide, Bytes.nil⟩, by simp⟩⟩
  have HB2 := Aside0.mk (hb.trans (hb2.mono hb.size))
  rw [← hp]
  have HX := Aside0.mk hx
  have HW2 := Aside0.mk hw2
  clear ht hb hb2 hpx hxl hp hx hw2
  go_wp2_with fail
  rw [← HW2.out, ← HX.out]
  go_loopw [5] (fun v5 wr => ∃ (i : Nat) (s : SS), i ≤ l.length ∧ i ≤ 60 ∧ v5 = .int .i64 i ∧ Aside0 (Below w.heap.size w wr) ∧ Aside0 (Pr w.heap.size wr p x s s (70000 * i) (fun _ => False))) (fun v _ => l.length - (intOf v).toNat)
  case atStart => exact ⟨0, _, by omega, by omega, rfl, HB2, HP2⟩
  case round =>
    obtain ⟨i, s, hi, hi60, rfl, HB, HT⟩ := hrel
    have hcase : (i < l.length ∧ i < 60) ∨ i = l.length ∨ (i < l.length ∧ i = 60) := by omega
    rcases hcase with ⟨hlt, h60⟩ | hend
    · obtain ⟨ad, B, c1, rfl, k0, k1, k2, hcap, hrd⟩ := op_at HL.out hlt (0, 0, [])
      have HM : Aside0 (l.getD i (0, 0, []) ∈ l) := ⟨by rw [List.getD_eq_getElem?_getD, List.getElem?_eq_getElem hlt]; exact List.getElem_mem hlt⟩
      have HOI := Aside0.mk (HOK.out _ HM.out)
      obtain ⟨o, ho⟩ : ∃ o, o = l.getD i (0, 0, []) := ⟨_, rfl⟩
      rw [← ho] at k0 k1 k2 hcap HOI hrd
      clear ho HM
      obtain ⟨kd, n, b⟩ := o
      dsimp only at k0 k1 k2 hcap hrd
      have hbl : b.length ≤ 9223372036854775807 := hrd.2.1
      obtain ⟨k0, k1, k2⟩ : wr.cell? (ad.add (i * 3)) = some (.int .i64 kd) ∧ wr.cell? ⟨(ad.add (i * 3)).block, (ad.add (i * 3)).off + 1, none⟩ = some (.int .i64 n) ∧ wr.cell? ⟨(ad.add (i * 3)).block, (ad.add (i * 3)).off + 2, none⟩ = some (.slice B b.length c1) :=
        ⟨(HB.out.cell (World.block_lt_of_cell? _ _ k0)).trans k0, (HB.out.cell (World.block_lt_of_cell? _ _ k1)).trans k1, (HB.out.cell (World.block_lt_of_cell? _ _ k2)).trans k2⟩
      have HRD := Aside0.mk hrd
      have HLT := Aside0.mk hlt
      clear hrd
      have hlen : ((1000 : Int) < b.length ∧ (b.length : Int) ≤ 65536) ∨ ((1000 : Int) < b.length ∧ ¬ (b.length : Int) ≤ 65536 ∧ (70000 : Int) < b.length) ∨ (¬ (1000 : Int) < b.length ∧ ¬ (70000 : Int) < b.length) ∨ ((1000 : Int) < b.length ∧ ¬ (b.length : Int) ≤ 65536 ∧ ¬ (70000 : Int) < b.length) := by omega
      rcases hlen with ⟨h5, h6⟩ | ⟨h5, h6, h7⟩ | hlen
      · go_wp2_with fail
        refine (salive_calls _).mono ?_
        rintro e w3 ⟨rfl, hb3⟩
        have HB3 := Aside0.mk ((below_alloc HB.out _).trans (hb3.mono (below_alloc HB.out _).size))
        clear hb3
        go_wp2_with fail
        go_ret
        exact ⟨rfl, HB3.out⟩
      · go_wp2_with fail
        refine (salive_calls _).mono ?_
        rintro e w3 ⟨rfl, hb3⟩
        have HB3 := Aside0.mk ((below_alloc HB.out _).trans (hb3.mono (below_alloc HB.out _).size))
        clear hb3
        go_wp2_with fail
        go_ret
        exact ⟨rfl, HB3.out⟩
      · have h70 : (b.length : Int) ≤ 70000 := by omega
        obtain ⟨q, hq⟩ : ∃ q, q = wr.heap.size := ⟨_, rfl⟩
        have hs0 : w.heap.size ≤ wr.heap.size := HB.out.size
        have hk : kd = 0 ∨ kd = 1 ∨ kd = 2 ∨ (kd ≠ 0 ∧ kd ≠ 1 ∧ kd ≠ 2) := by omega
        have hop := Aside0.mk (show True from trivial)
        have HLB : Aside0 (70000 * i + 70000 ≤ 4270000 ∧ 70000 * (i + 1) = 70000 * i + 70000 ∧ b.length ≤ 70000) := ⟨by omega⟩
        have HTN : Aside0 (∀ W ex, Below wr.heap.size wr W → (∀ k, ex k → wr.heap.size ≤ k ∧ k < W.heap.size) → Pr w.heap.size W p x s s (70000 * i) ex) := ⟨fun W ex hW he => HT.out.ex hW (fun k h => ⟨.inl (he k h).1, (he k h).2⟩)⟩
        have HS0 := Aside0.mk hs0
        have HBY := Aside0.mk HOI.out.2.2
        have HTS := Aside0.mk (show s.ok from by obtain ⟨F, G, _, _, _, _, h5, _⟩ := HT.out; exact h5.is.2.2)
        clear h70 hq
        rcases hlen with ⟨h5, h6⟩ | ⟨h5, h6, h7⟩
        all_goals
          rcases hk with hk | hk | hk | ⟨hk0, hk1, hk2⟩
          · have b0 : (kd == 0) = true := beq_iff_eq.2 hk
            clear hk
            go_wp2_with fail
            obtain ⟨q, hq⟩ : ∃ q, q = wr.heap.size := ⟨_, rfl⟩
            obtain ⟨w0, hw0⟩ : ∃ w0, w0 = wr.alloc (.cells #[.int .i64 kd, .int .i64 n, .slice B b.length c1] 62) := ⟨_, rfl⟩
            have hb0 : Below wr.heap.size wr w0 := by rw [hw0]; exact below_alloc (Below.refl _ _) _
            have hh0 : w0.heap[q]? = some (.cells #[.int .i64 kd, .int .i64 n, .slice B b.length c1] 62 (0, 0)) := by rw [hw0, hq]; exact heap_alloc_new wr _
            rw [← hw0, ← hq]
            have HQ := Aside0.mk hq
            have HB0 := Aside0.mk hb0
            have HH0 := Aside0.mk hh0
            have HBW := Aside0.mk (HB.out.trans (hb0.mono HS0.out))
            clear hw0 hb0 hh0 hq k0 k1 k2
            refine (copy_calls _ B c1 b (Kd.C_below HRD.out HBW.out) (by have := HLB.out; omega)).mono ?_
            rintro e w3 ⟨v7, rfl, ho7, hb7⟩
            obtain ⟨A7, c7, rfl, hr7⟩ := ho7.reads
            have hb3 := HB0.out.trans (hb7.mono HB0.out.size)
            obtain ⟨ex, hex⟩ : ∃ ex : Nat → Prop, ex = fun k => k = q ∨ (Value.slice A7 b.length c7).ownBlock = some k := ⟨_, rfl⟩
            have HEQ : Aside0 (ex q) := ⟨by rw [hex]; exact .inl rfl⟩
            have HEA : Aside0 (∀ k, (Value.slice A7 b.length c7).ownBlock = some k → ex k) := ⟨fun k h => by rw [hex]; exact .inr h⟩
            have hp3 : Pr w.heap.size w3 p x s s (70000 * i) ex := HTN.out w3 ex hb3 (fun k h => by
              rw [hex] at h
              have hql := (Array.getElem?_eq_some_iff.1 HH0.out).1
              have hq := HQ.out
              rcases h with h | h
              · have := hb7.size; omega
              · have := QB.block (QB.of_OB ho7) h; have := HB0.out.size; omega)
            obtain ⟨top, htop⟩ : ∃ top, top = w0.heap.size := ⟨_, rfl⟩
            rw [← htop] at ho7
            have HTOP : Aside0 (w.heap.size ≤ top) := ⟨by rw [htop]; exact HBW.out.size⟩
            have hbd : Below w3.heap.size w3 w3.drew := below_drew (Below.refl _ _)
            have HPd : Aside0 (Pr w.heap.size w3.drew p x s s (70000 * i) ex) := ⟨hp3.below hbd⟩
            have HOd : Aside0 (OB w3.drew top (.slice A7 b.length c7) b) := ⟨ho7.below hbd⟩
            have HHd := Aside0.mk (blk_keep (blk_keep HH0.out hb7) hbd)
            have hbw3 := HBW.out.trans (hb7.mono HBW.out.size)
            have HBd : Aside0 (Below w.heap.size w w3.drew) := ⟨hbw3.trans (hbd.mono hbw3.size)⟩
            obtain ⟨s2, hs2⟩ : ∃ s2, s2 = (s.put b).1 := ⟨_, rfl⟩
            obtain ⟨er, her⟩ : ∃ er, er = (s.put b).2 := ⟨_, rfl⟩
            have HC1 : Aside0 (∀ W, Below w.heap.size w W → Pr w.heap.size W p x s s (70000 * i) ex → OB W top (.slice A7 b.length c7) b → W.heap[q]? = some (.cells #[.int .i64 kd, .int .i64 n, .slice B b.length c1] 62 (0, 0)) → Calls Try.prog 23 #[.pointer (some ⟨p, 0, none⟩), .slice A7 b.length c7] W (fun e W' => e = .returned (.int .i64 er) ∧ Pr w.heap.size W' p x s2 s (70000 * i) ex ∧ OB W' top (.slice A7 b.length c7) b ∧ W'.heap[q]? = some (.cells #[.int .i64 kd, .int .i64 n, .slice B b.length c1] 62 (0, 0)) ∧ Below w.heap.size w W')) := ⟨fun W hW hp ho hh => by
              obtain ⟨A', c', e', hr⟩ := ho.reads
              cases e'
              refine (pr_put (w := w) hp hW.size hr HOI.out.2.2).mono ?_
              rintro e W' ⟨rfl, hp', hk'⟩
              rw [← hs2] at hp'
              exact ⟨by rw [her], hp', ho.kx hk' HEA.out, (hk'.block q (Array.getElem?_eq_some_iff.1 hh).1 HEQ.out).trans hh, hk'.below hW⟩⟩
            have HC2 : Aside0 (∀ W, Below w.heap.size w W → Pr w.heap.size W p x s2 s (70000 * i) ex → OB W top (.slice A7 b.length c7) b → W.heap[q]? = some (.cells #[.int .i64 kd, .int .i64 n, .slice B b.length c1] 62 (0, 0)) → Calls Try.prog 34 #[.pointer (some ⟨x, 0, none⟩), .slice B b.length c1] W (fun e W' => e = .returned (.int .i64 er) ∧ Pr w.heap.size W' p x s2 s2 (70000 * i + b.length) ex ∧ OB W' top (.slice A7 b.length c7) b ∧ W'.heap[q]? = some (.cells #[.int .i64 kd, .int .i64 n, .slice B b.length c1] 62 (0, 0)) ∧ Below w.heap.size w W')) := ⟨fun W hW hp ho hh => by
              refine (pr_xput (w := w) hp hW.size (Kd.C_below HRD.out hW) HOI.out.2.2 (by have := HLB.out; omega)).mono ?_
              rintro e W' ⟨rfl, hp', hk'⟩
              rw [← hs2] at hp'
              exact ⟨by rw [her], hp', ho.kx hk' HEA.out, (hk'.block q (Array.getElem?_eq_some_iff.1 hh).1 HEQ.out).trans hh, hk'.below hW⟩⟩
            have HCQ : Aside0 (∀ W : World, W.heap[q]? = some (.cells #[.int .i64 kd, .int .i64 n, .slice B b.length c1] 62 (0, 0)) → W.cell? ⟨q, 2, none⟩ = some (.slice B b.length c1)) := ⟨fun W h => (cells3 h).2.2⟩
            have hne : (er != er) = false := bne_self_eq_false _
            clear hs2 her hb7 hr7 hb3 hp3 ho7 hbd hbw3 htop hex HTN HT HH0 HBW HB0 HOI
            go_wp2_with fail
            go_region_held_law (fun w' => w'.cell? ⟨q, 2, none⟩ = some (.slice B b.length c1)) (exact HCQ.out _ (Aside0.out (by assumption)))
              (first
               | (go_at_call 23; refine (HC1.out _ (Aside0.out (by assumption)) (Aside0.out (by assumption)) (Aside0.out (by assumption)) (Aside0.out (by assumption))).mono ?_; rintro e wa ⟨rfl, hpa, hoa, hha, hba⟩; have HPa := Aside0.mk hpa; have HOa := Aside0.mk hoa; have HHa := Aside0.mk hha; have HBa := Aside0.mk hba; clear hpa hoa hha hba)
               | (go_at_call 34; refine (HC2.out _ (Aside0.out (by assumption)) (Aside0.out (by assumption)) (Aside0.out (by assumption)) (Aside0.out (by assumption))).mono ?_; rintro e wb ⟨rfl, hpb, hob, hhb, hbb⟩; have HHb := Aside0.mk hhb; have HPb := Aside0.mk hpb; have HOb : Aside0 (∃ zs : List Int, zs.length = b.length ∧ Bytes zs ∧ OB wb top (.slice A7 b.length c7) zs) := ⟨_, rfl, HBY.out, hob⟩; have HBb := Aside0.mk hbb; clear hpb hob hhb hbb))
            all_goals
              obtain ⟨m, hm⟩ : ∃ m, m = b.length := ⟨_, rfl⟩
              rw [← hm] at HPb HOb HLB hbl
              have HEA' : Aside0 (∀ k, (Value.slice A7 m c7).ownBlock = some k → ex k) := ⟨by rw [hm]; exact HEA.out⟩
              rw [← hm]
              clear HC1 HC2 HPa HPd HOa HOd HHa HHd HBa HBd HP2 HB2 HEA hm hne
              go_wp2_with fail
              go_loopw [8] (fun v8 wq => ∃ k : Nat, k ≤ m ∧ v8 = .int .i64 k ∧ Aside0 (Below w.heap.size w wq) ∧ Aside0 (Pr w.heap.size wq p x s2 s2 (70000 * i + m) ex) ∧ Aside0 (∃ zs : List Int, zs.length = m ∧ Bytes zs ∧ OB wq top (.slice A7 m c7) zs)) (fun v _ => m - (intOf v).toNat)
              case atStart => exact ⟨0, by omega, rfl, HBb, HPb, HOb⟩
              case round =>
                obtain ⟨k, hk, rfl, HBq, HPq, HVq⟩ := hrel
                by_cases hlt2 : k < m
                · obtain ⟨g, z, rfl, hg, hz0, hz1, hc, hf, hset⟩ := own_put HVq.out hlt2
                  obtain ⟨y, hy, hyb⟩ := xor_ff hz0 hz1
                  have HX := Aside0.mk (hset y hyb)
                  have HPX := Aside0.mk (pr_set (k := k) (v := .int .u8 y) HPq.out (HEA'.out g rfl))
                  have HBX := Aside0.mk (HBq.out.setCell (p := ⟨g, k, none⟩) (Nat.le_trans HTOP.out hg) (.int .u8 y))
                  clear hset hyb
                  go_wp2_with fail
                  refine ⟨⟨k + 1, by omega, by go_num, HBX, HPX, HX⟩, by simp [intOf]; omega⟩
                · have hkm' : ¬ (k : Int) < (m : Int) := by omega
                  have HPZ := Aside0.mk HPq.out.none
                  have HBZ := HBq
                  clear hlt2 HVq HPq HBq HPb HBb HOb hk
                  go_wp2_with fail
                  refine (pr_held HPZ.out).mono ?_
                  rintro e wh ⟨rfl, rfl⟩
                  go_wp2_with fail
                  refine (pr_xheld HPZ.out (by have := HLB.out; omega)).mono ?_
                  rintro e wi ⟨rfl, hbi⟩
                  have HPI := Aside0.mk (HPZ.out.below hbi)
                  have HBI := Aside0.mk (HBZ.out.trans (hbi.mono HBZ.out.size))
                  obtain ⟨hl, hhl⟩ : ∃ hl, hl = s2.held.length := ⟨_, rfl⟩
                  rw [← hhl]
                  have hne2 : ((hl : Int) != (hl : Int)) = false := bne_self_eq_false _
                  clear hbi hhl
                  go_wp2_with fail
                  exact ⟨⟨i + 1, s2, by omega, by omega, by go_num, HBI, ⟨by have := HPI.out; exact this.up (by have := HLB.out; omega)⟩⟩, by simp [intOf]; omega⟩
          · have b0 : (kd == 0) = false := beq_eq_false_iff_ne.2 (by omega)
            have b1 : (kd == 1) = true := beq_iff_eq.2 hk
            clear hk
            go_wp2_with fail
            obtain ⟨q, hq⟩ : ∃ q, q = wr.heap.size := ⟨_, rfl⟩
            obtain ⟨w0, hw0⟩ : ∃ w0, w0 = wr.alloc (.cells #[.int .i64 kd, .int .i64 n, .slice B b.length c1] 62) := ⟨_, rfl⟩
            have hb0 : Below wr.heap.size wr w0 := by rw [hw0]; exact below_alloc (Below.refl _ _) _
            have hh0 : w0.heap[q]? = some (.cells #[.int .i64 kd, .int .i64 n, .slice B b.length c1] 62 (0, 0)) := by rw [hw0, hq]; exact heap_alloc_new wr _
            rw [← hw0, ← hq]
            have HQ := Aside0.mk hq
            have HB0 := Aside0.mk hb0
            have HH0 := Aside0.mk hh0
            have HBW := Aside0.mk (HB.out.trans (hb0.mono HS0.out))
            clear hw0 hb0 hh0 hq k0 k1 k2
            have hp0 := HTN.out w0 (fun k => k = q) HB0.out (fun k h => by
              have hql := (Array.getElem?_eq_some_iff.1 HH0.out).1
              have hq := HQ.out
              have h : k = q := h
              omega)
            refine (pr_get (w := w) (n := n) hp0 HBW.out.size HOI.out.2.1.2).mono ?_
            rintro e w3 ⟨A9, c9, rfl, ho9, hp3, hk3⟩
            obtain ⟨ex, hex⟩ : ∃ ex : Nat → Prop, ex = fun k => k = q ∨ (Value.slice A9 (s.get n).out.length c9).ownBlock = some k := ⟨_, rfl⟩
            rw [← hex] at hp3
            have HEA : Aside0 (∀ k, (Value.slice A9 (s.get n).out.length c9).ownBlock = some k → ex k) := ⟨fun k h => by rw [hex]; exact .inr h⟩
            have HEQ : Aside0 (ex q) := ⟨by rw [hex]; exact .inl rfl⟩
            obtain ⟨top, htop⟩ : ∃ top, top = w0.heap.size := ⟨_, rfl⟩
            rw [← htop] at ho9
            have HTOP : Aside0 (w.heap.size ≤ top) := ⟨by rw [htop]; exact HBW.out.size⟩
            have hh3 := (hk3.block q (Array.getElem?_eq_some_iff.1 HH0.out).1 rfl).trans HH0.out
            have HB3 := Aside0.mk (hk3.below HBW.out)
            have HP3 := Aside0.mk hp3
            have HO3 := Aside0.mk ho9
            obtain ⟨t0, t1, t2⟩ := cells3 hh3
            obtain ⟨out, hout⟩ : ∃ out, out = (s.get n).out := ⟨_, rfl⟩
            obtain ⟨bw, hbw⟩ : ∃ bw, bw = (s.get n).whole := ⟨_, rfl⟩
            obtain ⟨er, her⟩ : ∃ er, er = (s.get n).err := ⟨_, rfl⟩
            obtain ⟨s2, hs2⟩ : ∃ s2, s2 = (s.get n).st := ⟨_, rfl⟩
            have hob : Bytes out := by rw [hout]; exact (SS.get_out HTS.out n).2
            rw [← hout] at HO3 HEA
            rw [← hs2] at HP3
            rw [← hout, ← hbw, ← her]
            have HGX : Aside0 (∀ W, Below w.heap.size w W → Pr w.heap.size W p x s2 s (70000 * i) ex → Calls Try.prog 35 #[.pointer (some ⟨x, 0, none⟩), .int .i64 n] W (fun e W' => ∃ A c, e = .returned (.tuple #[.slice A out.length c, .bool bw, .int .i64 er]) ∧ OB W' W.heap.size (.slice A out.length c) out ∧ Pr w.heap.size W' p x s2 s2 (70000 * i) ex ∧ Kx w.heap.size w W ex W')) := ⟨fun W hW hp => by
              rw [hout, hbw, her]
              have := pr_xget (w := w) (n := n) hp hW.size (by have := HLB.out; omega)
              rw [← hs2] at this
              exact this⟩
            have HOB := Aside0.mk hob
            clear hob hp0 ho9 hp3 hk3 htop hh3 hex hout hbw her hs2 HTN HT HH0 HBW HB0 HOI HQ
            go_wp2_with fail
            refine (HGX.out _ HB3.out HP3.out).mono ?_
            rintro e w4 ⟨A12, c12, rfl, ho12, hp4, hk4⟩
            have HB4 := Aside0.mk (hk4.below HB3.out)
            have HP4 := Aside0.mk hp4
            have ho4 := HO3.out.kx hk4 HEA.out
            have g1 := ho4.string
            have g2 := ho12.string
            have HV4 : Aside0 (∃ zs : List Int, zs.length = out.length ∧ Bytes zs ∧ OB w4 top (.slice A9 out.length c9) zs) := ⟨out, rfl, HOB.out, ho4⟩
            have hol : out.length ≤ 9223372036854775807 := by obtain ⟨_, _, e9, h9⟩ := ho4.reads; exact h9.2.1
            obtain ⟨S, hS⟩ : ∃ S, S = strOfNums out := ⟨_, rfl⟩
            rw [← hS] at g1 g2
            have hE1 : (S.toList == S.toList) = true := beq_self_eq_true _
            have hE2 : (S.toList != S.toList) = false := bne_self_eq_false _
            have hW1 : (bw != bw) = false := bne_self_eq_false _
            have hN1 : (er != er) = false := bne_self_eq_false _
            obtain ⟨m, hm⟩ : ∃ m, m = out.length := ⟨_, rfl⟩
            rw [← hm] at g1 g2 HV4 HEA hol
            rw [← hm]
            clear hp4 hk4 ho4 ho12 hS hm t0 t1 t2 HO3 HP3 HB3 HGX HOB
            go_wp2_with fail
            go_loopw [15] (fun v8 wq => ∃ k : Nat, k ≤ m ∧ v8 = .int .i64 k ∧ Aside0 (Below w.heap.size w wq) ∧ Aside0 (Pr w.heap.size wq p x s2 s2 (70000 * i) ex) ∧ Aside0 (∃ zs : List Int, zs.length = m ∧ Bytes zs ∧ OB wq top (.slice A9 m c9) zs)) (fun v _ => m - (intOf v).toNat)
            case atStart => exact ⟨0, by omega, rfl, HB4, HP4, HV4⟩
            case round =>
              obtain ⟨k, hk, rfl, HBq, HPq, HVq⟩ := hrel
              by_cases hlt2 : k < m
              · obtain ⟨g, z, rfl, hg, hz0, hz1, hc, hf, hset⟩ := own_put HVq.out hlt2
                have HX := Aside0.mk (hset 9 (by unfold Byte; decide))
                have HPX := Aside0.mk (pr_set (k := k) (v := .int .u8 9) HPq.out (HEA.out g rfl))
                have HBX := Aside0.mk (HBq.out.setCell (p := ⟨g, k, none⟩) (Nat.le_trans HTOP.out hg) (.int .u8 9))
                clear hset g1 g2
                go_wp2_with fail
                refine ⟨⟨k + 1, by omega, by go_num, HBX, HPX, HX⟩, by simp [intOf]; omega⟩
              · have hkm' : ¬ (k : Int) < (m : Int) := by omega
                have HPZ := Aside0.mk HPq.out.none
                have HBZ := HBq
                clear hlt2 HVq HPq HBq HP4 HB4 HV4 hk g1 g2
                go_wp2_with fail
                refine (pr_held HPZ.out).mono ?_
                rintro e wh ⟨rfl, rfl⟩
                go_wp2_with fail
                refine (pr_xheld HPZ.out (by have := HLB.out; omega)).mono ?_
                rintro e wi ⟨rfl, hbi⟩
                have HPI := Aside0.mk (HPZ.out.below hbi)
                have HBI := Aside0.mk (HBZ.out.trans (hbi.mono HBZ.out.size))
                obtain ⟨hl, hhl⟩ : ∃ hl, hl = s2.held.length := ⟨_, rfl⟩
                rw [← hhl]
                have hne2 : ((hl : Int) != (hl : Int)) = false := bne_self_eq_false _
                clear hbi hhl
                go_wp2_with fail
                exact ⟨⟨i + 1, s2, by omega, by omega, by go_num, HBI, ⟨by have := HPI.out; exact this.up (by have := HLB.out; omega)⟩⟩, by simp [intOf]; omega⟩
          · have b0 : (kd == 0) = false := beq_eq_false_iff_ne.2 (by omega)
            have b1 : (kd == 1) = false := beq_eq_false_iff_ne.2 (by omega)
            have b2 : (kd == 2) = true := beq_iff_eq.2 hk
            clear hk
            go_wp2_with fail
            obtain ⟨w0, hw0⟩ : ∃ w0, w0 = wr.alloc (.cells #[.int .i64 kd, .int .i64 n, .slice B b.length c1] 62) := ⟨_, rfl⟩
            have hb0 : Below wr.heap.size wr w0 := by rw [hw0]; exact below_alloc (Below.refl _ _) _
            rw [← hw0]
            have HP0 := Aside0.mk (HTN.out w0 (fun _ => False) hb0 (fun k h => h.elim))
            have HBW := Aside0.mk (HB.out.trans (hb0.mono HS0.out))
            clear hw0 hb0 k0 k1 k2
            refine (pr_end (w := w) HP0.out HBW.out.size).mono ?_
            rintro e w3 ⟨rfl, hp3, hk3⟩
            have HP3 := Aside0.mk hp3
            have HB3 := Aside0.mk (hk3.below HBW.out)
            clear hp3 hk3
            go_wp2_with fail
            refine (pr_xend (w := w) HP3.out HB3.out.size).mono ?_
            rintro e w4 ⟨rfl, hp4, hk4⟩
            have hbz := hk4.below HB3.out
            obtain ⟨s2, hs2⟩ : ∃ s2, s2 = s.fin.1 := ⟨_, rfl⟩
            rw [← hs2] at hp4
            have HPZ := Aside0.mk hp4.none
            have HBZ := Aside0.mk hbz
            obtain ⟨er, her⟩ : ∃ er, er = s.fin.2 := ⟨_, rfl⟩
            rw [← her]
            have hne : (er != er) = false := bne_self_eq_false _
            clear hp4 hk4 hbz hs2 her
            go_wp2_with fail
            refine (pr_held HPZ.out).mono ?_
            rintro e wh ⟨rfl, rfl⟩
            go_wp2_with fail
            refine (pr_xheld HPZ.out (by have := HLB.out; omega)).mono ?_
            rintro e wi ⟨rfl, hbi⟩
            have HPI := Aside0.mk (HPZ.out.below hbi)
            have HBI := Aside0.mk (HBZ.out.trans (hbi.mono HBZ.out.size))
            obtain ⟨hl, hhl⟩ : ∃ hl, hl = s2.held.length := ⟨_, rfl⟩
            rw [← hhl]
            have hne2 : ((hl : Int) != (hl : Int)) = false := bne_self_eq_false _
            clear hbi hhl
            go_wp2_with fail
            exact ⟨⟨i + 1, s2, by omega, by omega, by go_num, HBI, ⟨by have := HPI.out; exact this.up (by have := HLB.out; omega)⟩⟩, by simp [intOf]; omega⟩
          · have b0 : (kd == 0) = false := beq_eq_false_iff_ne.2 hk0
            have b1 : (kd == 1) = false := beq_eq_false_iff_ne.2 hk1
            have b2 : (kd == 2) = false := beq_eq_false_iff_ne.2 hk2
            clear hk0 hk1 hk2
            go_wp2_with fail
            obtain ⟨w0, hw0⟩ : ∃ w0, w0 = wr.alloc (.cells #[.int .i64 kd, .int .i64 n, .slice B b.length c1] 62) := ⟨_, rfl⟩
            have hb0 : Below wr.heap.size wr w0 := by rw [hw0]; exact below_alloc (Below.refl _ _) _
            rw [← hw0]
            have HPZ := Aside0.mk (HTN.out w0 (fun _ => False) hb0 (fun k h => h.elim))
            have HBZ := Aside0.mk (HB.out.trans (hb0.mono HS0.out))
            clear hw0 hb0 k0 k1 k2
            refine (pr_held HPZ.out).mono ?_
            rintro e wh ⟨rfl, rfl⟩
            go_wp2_with fail
            refine (pr_xheld HPZ.out (by have := HLB.out; omega)).mono ?_
            rintro e wi ⟨rfl, hbi⟩
            have HPI := Aside0.mk (HPZ.out.below hbi)
            have HBI := Aside0.mk (HBZ.out.trans (hbi.mono HBZ.out.size))
            obtain ⟨hl, hhl⟩ : ∃ hl, hl = s.held.length := ⟨_, rfl⟩
            rw [← hhl]
            have hne2 : ((hl : Int) != (hl : Int)) = false := bne_self_eq_false _
            clear hbi hhl
            go_wp2_with fail
            exact ⟨⟨i + 1, s, by omega, by omega, by go_num, HBI, ⟨by have := HPI.out; exact this.up (by have := HLB.out; omega)⟩⟩, by simp [intOf]; omega⟩
    · rcases hend with rfl | ⟨hlt, rfl⟩
      all_goals
        go_wp2_with fail
        refine (salive_calls _).mono ?_
        rintro e w3 ⟨rfl, hb3⟩
        have HB3 := Aside0.mk (HB.out.trans (hb3.mono HB.out.size))
        clear hb3
        go_wp2_with fail
        go_ret
        exact ⟨rfl, HB3.out⟩
end Go.Proofs.Ytilogpjbdemceaa.Oct
