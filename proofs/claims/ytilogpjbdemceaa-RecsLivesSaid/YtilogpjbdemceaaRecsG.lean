import Derived.Test.YtilogpjbdemceaaRecsF
import Derived.Test.YtilogpjbdemceaaRead
namespace Go.Proofs.Ytilogpjbdemceaa.Oct
open Go.RowKit Go.Proofs.YtilogpjbdemceaaW.PrintWords Go.Proofs.Ytilogpjbdemceaa.M
set_option linter.unusedVariables false
set_option linter.unusedSimpArgs false
abbrev OpS := Int × Int × List Int
abbrev opK : Kd OpS := Kd.pair (Kd.int .i64) (Kd.pair (Kd.int .i64) (Kd.slice 5 (Kd.int .u8)))
def OpS.ok (o : OpS) : Prop := (-9223372036854775808 ≤ o.1 ∧ o.1 ≤ 9223372036854775807) ∧ (-9223372036854775808 ≤ o.2.1 ∧ o.2.1 ≤ 9223372036854775807) ∧ Bytes o.2.2
/-- a field's address behind an element's -/
theorem add_lit_add (a : Addr) (i j : Nat) : a.add (i + (j + 1)) = ⟨(a.add i).block, (a.add i).off + (j + 1), none⟩ := by
  rw [← Rd.addr_add_add]
  exact if_neg (Nat.succ_ne_zero j)
/-- an element of a row of calls: its three cells, its bytes -/
theorem op_at {W : World} {A : Option Addr} {n : Nat} {l : List OpS} (h : opK.C W A n l) {k : Nat} (hk : k < n) (z : OpS) :
    ∃ ad B c, A = some ad ∧ W.cell? (ad.add (k * 3)) = some (.int .i64 (l.getD k z).1) ∧ W.cell? ⟨(ad.add (k * 3)).block, (ad.add (k * 3)).off + 1, none⟩ = some (.int .i64 (l.getD k z).2.1) ∧ W.cell? ⟨(ad.add (k * 3)).block, (ad.add (k * 3)).off + 2, none⟩ = some (.slice B (l.getD k z).2.2.length c) ∧ (l.getD k z).2.2.length ≤ c ∧ Kd.C (Kd.int .u8) W B (l.getD k z).2.2.length (l.getD k z).2.2 := by
  obtain ⟨ad, c, e, hs, hK, hcell⟩ := Kd.C_get h z (k : Int) (by omega) (by omega)
  simp only [Int.toNat_natCast] at hK hcell
  obtain ⟨c0, c1, rfl, h0, h1⟩ := hK
  obtain ⟨c2, c3, rfl, h2, B, cc, rfl, hl, hr⟩ := h1
  have h0' : c0 = [.int .i64 (l.getD k z).1] := h0
  have h2' : c2 = [.int .i64 (l.getD k z).2.1] := h2
  subst h0' h2'
  exact ⟨ad, B, cc, e, hcell 0 _ rfl, (by rw [← add_lit_add]; exact hcell 1 _ rfl), (by rw [← add_lit_add]; exact hcell 2 _ rfl), hl, hr⟩
/-- blocks above a mark that stood at another one -/
abbrev In (base top : Nat) : Nat → Prop := fun k => base ≤ k ∧ k < top
theorem StreamAt.near {W : World} {p base : Nat} {s : SS} (h : StreamAt W p s (fun k => base ≤ k)) : StreamAt W p s (In base W.heap.size) := h.mono (fun k h1 h2 => ⟨h1, h2⟩)
theorem sput_in {w W : World} {base top p : Nat} {s : SS} {A : Option Addr} {c : Nat} {ys : List Int} (h : StreamAt W p s (In base top)) (hB : Below w.heap.size w W) (hw : w.heap.size ≤ base) (ht : base ≤ W.heap.size) (hy : Kd.C (Kd.int .u8) W A ys.length ys) (hb : Bytes ys) :
    Calls Try.prog 23 #[.pointer (some ⟨p, 0, none⟩), .slice A ys.length c] W (fun e W' => e = .returned (.int .i64 (s.put ys).2) ∧ StreamAt W' p (s.put ys).1 (fun k => base ≤ k) ∧ Kept W (In base top) W' ∧ Below w.heap.size w W') := by
  refine (sput_calls W p s _ A c ys h hy hb).mono ?_
  rintro e W' ⟨rfl, hs, hk⟩
  exact ⟨rfl, hs.mono (fun k hk _ => hk.elim (fun h => h.1) (fun h => Nat.le_trans ht h)), hk, below_kept hB hk hB.size (fun k hk => Nat.le_trans hw hk.1)⟩
theorem send_in {w W : World} {base top p : Nat} {s : SS} (h : StreamAt W p s (In base top)) (hB : Below w.heap.size w W) (hw : w.heap.size ≤ base) (ht : base ≤ W.heap.size) :
    Calls Try.prog 36 #[.pointer (some ⟨p, 0, none⟩)] W (fun e W' => e = .returned (.int .i64 s.fin.2) ∧ StreamAt W' p s.fin.1 (fun k => base ≤ k) ∧ Kept W (In base top) W' ∧ Below w.heap.size w W') := by
  refine (send_calls W p s _ h).mono ?_
  rintro e W' ⟨⟨rfl, hs, hk⟩, _⟩
  exact ⟨rfl, hs.mono (fun k hk _ => hk.elim (fun h => h.1) (fun h => Nat.le_trans ht h)), hk, below_kept hB hk hB.size (fun k hk => Nat.le_trans hw hk.1)⟩
theorem sget_in' {w W : World} {base top p : Nat} {s : SS} {n : Int} (h : StreamAt W p s (In base top)) (hB : Below w.heap.size w W) (hw : w.heap.size ≤ base) (hn : n ≤ 9223372036854775807) :
    Calls Try.prog 24 #[.pointer (some ⟨p, 0, none⟩), .int .i64 n] W (fun e W' => ∃ A c, e = .returned (.tuple #[.slice A (s.get n).out.length c, .bool (s.get n).whole, .int .i64 (s.get n).err]) ∧ StreamAt W' p (s.get n).st (In base top) ∧ OB W' W.heap.size (.slice A (s.get n).out.length c) (s.get n).out ∧ Kept W (In base top) W' ∧ Below w.heap.size w W') := by
  refine (sget_calls W p s _ n h hn).mono ?_
  rintro e W' ⟨v, rfl, hs, ho, hk⟩
  obtain ⟨A, c, rfl, _⟩ := ho.reads
  exact ⟨A, c, rfl, hs, ho, hk, below_kept hB hk hB.size (fun k hk => Nat.le_trans hw hk.1)⟩
theorem kept_blk {W W' : World} {base top q : Nat} {o : Obj} (hk : Kept W (In base top) W') (h : W.heap[q]? = some o) (hq : top ≤ q) : W'.heap[q]? = some o := (hk.block q (Array.getElem?_eq_some_iff.1 h).1 (fun h => by have := h.2; omega)).trans h
set_option maxRecDepth 20000 in
set_option maxHeartbeats 4000000 in
theorem rheld_calls (w : World) (l : List OpS) (A : Option Addr) (c : Nat) (h : opK.C w A l.length l) (ho : ∀ o ∈ l, OpS.ok o) :
    Calls Try.prog 10 #[.slice A l.length c] w (Yes w) := by
  have HL := Aside0.mk h
  have HOK := Aside0.mk ho
  have hll : l.length ≤ 9223372036854775807 := h.2.1
  clear h ho
  go_enter Try.func10, Try.ntmps10
  go_wp2_with fail
  refine (snew_calls _).mono ?_
  rintro e w1 ⟨rfl, ht, hb⟩
  have HT1 := Aside0.mk ht
  have HB1 := Aside0.mk hb
  obtain ⟨p, hp⟩ : ∃ p, p = w.heap.size := ⟨_, rfl⟩
  rw [← hp]
  have HT1' : Aside0 (StreamAt w1 p ⟨0, [], false⟩ (fun k => w.heap.size ≤ k)) := ⟨by rw [hp]; exact ht⟩
  clear ht hb hp HT1
  go_wp2_with fail
  go_loopw [4, 5, 6] (fun v4 v5 v6 wr => ∃ (i cm tk : Nat) (s : SS), i ≤ l.length ∧ i ≤ 60 ∧ cm ≤ 1000 * i ∧ tk ≤ cm ∧ v4 = .int .i64 cm ∧ v5 = .int .i64 tk ∧ v6 = .int .i64 i ∧ Aside0 (cm = tk + s.held.length) ∧ Aside0 (Below w.heap.size w wr) ∧ Aside0 (StreamAt wr p s (fun k => w.heap.size ≤ k))) (fun _ _ v _ => l.length - (intOf v).toNat)
  case atStart => exact ⟨0, 0, 0, _, by omega, by omega, by omega, by omega, rfl, rfl, rfl, ⟨rfl⟩, HB1, HT1'⟩
  case round =>
    obtain ⟨i, cm, tk, s, hi, hi60, hcm, htk, rfl, rfl, rfl, HC, HB, HT⟩ := hrel
    have hcase : (i < l.length ∧ i < 60) ∨ i = l.length ∨ (i < l.length ∧ i = 60) := by omega
    rcases hcase with ⟨hlt, h60⟩ | hend
    · obtain ⟨ad, B, c1, rfl, k0, k1, k2, hcap, hrd⟩ := op_at (Kd.C_below HL.out HB.out) hlt (0, 0, [])
      have HM : Aside0 (l.getD i (0, 0, []) ∈ l) := ⟨by rw [List.getD_eq_getElem?_getD, List.getElem?_eq_getElem hlt]; exact List.getElem_mem hlt⟩
      have HOI := Aside0.mk (HOK.out _ HM.out)
      obtain ⟨o, ho⟩ : ∃ o, o = l.getD i (0, 0, []) := ⟨_, rfl⟩
      rw [← ho] at k0 k1 k2 hcap HOI hrd
      clear ho HM
      obtain ⟨kd, n, b⟩ := o
      dsimp only at k0 k1 k2 hcap hrd
      have hbl : b.length ≤ 9223372036854775807 := hrd.2.1
      have HRD := Aside0.mk hrd
      clear hrd
      by_cases h5 : 1000 < b.length
      · go_wp2_with fail
        refine (salive_calls _).mono ?_
        rintro e w3 ⟨rfl, hb3⟩
        have HB3 := Aside0.mk ((below_alloc HB.out _).trans (hb3.mono (below_alloc HB.out _).size))
        clear hb3
        go_wp2_with fail
        go_ret
        exact ⟨rfl, HB3.out⟩
      · have hk : kd = 0 ∨ kd = 1 ∨ kd = 2 ∨ (kd ≠ 0 ∧ kd ≠ 1 ∧ kd ≠ 2) := by omega
        have HTN : Aside0 (∀ W, Below wr.heap.size wr W → StreamAt W p s (In w.heap.size wr.heap.size)) := ⟨fun W hW => HT.out.near.below hW⟩
        have hs0 : w.heap.size ≤ wr.heap.size := HB.out.size
        have h1000 : b.length ≤ 1000 := by omega
        rcases hk with hk | hk | hk | hk
        · have b0 : (kd == 0) = true := beq_iff_eq.2 hk
          clear hk
          go_wp2_with fail
          obtain ⟨w0, hw0⟩ : ∃ w0, w0 = wr.alloc (.cells #[.int .i64 kd, .int .i64 n, .slice B b.length c1] 62) := ⟨_, rfl⟩
          have hb0 : Below wr.heap.size wr w0 := by rw [hw0]; exact below_alloc (Below.refl _ _) _
          have hh0 : w0.heap[wr.heap.size]? = some (.cells #[.int .i64 kd, .int .i64 n, .slice B b.length c1] 62 (0, 0)) := by rw [hw0]; exact heap_alloc_new wr _
          rw [← hw0]
          have HB0 := Aside0.mk hb0
          have HH0 := Aside0.mk hh0
          have HBW := Aside0.mk (HB.out.trans (hb0.mono hs0))
          clear hw0 hb0 hh0 k0 k1 k2
          refine (sput_in (HTN.out _ HB0.out) HBW.out (Nat.le_refl _) HBW.out.size (Kd.C_below HRD.out HB0.out) HOI.out.2.2).mono ?_
          rintro e w2 ⟨rfl, ht2, hk2, hb2⟩
          have HB2 := Aside0.mk hb2
          obtain ⟨d0, d1, d2, g0, g1, g2⟩ := three_cells (kept_blk hk2 HH0.out (Nat.le_refl _))
          have hcs : ((s.put b).1.held.length = s.held.length ∧ ((s.put b).2 == 0) = false) ∨ ((s.put b).1.held.length = s.held.length + b.length ∧ ((s.put b).2 == 0) = true) := by
            rcases SS.put_cases s b with hp | hp | ⟨hp, _⟩ | ⟨hp, _⟩ <;> rw [hp] <;> simp
          obtain ⟨s2, hs2⟩ : ∃ s2, s2 = (s.put b).1 := ⟨_, rfl⟩
          obtain ⟨er, her⟩ : ∃ er, er = (s.put b).2 := ⟨_, rfl⟩
          rw [← hs2] at ht2 hcs
          rw [← her] at hcs ⊢
          obtain ⟨L, hL⟩ : ∃ L, L = s2.held.length := ⟨_, rfl⟩
          rw [← hL] at hcs
          have HL2 := Aside0.mk hL
          have HT2 := Aside0.mk ht2
          clear ht2 hk2 hb2 hs2 her hL
          have hcm2 := HC.out
          rcases hcs with ⟨hl2, he⟩ | ⟨hl2, he⟩
          · have hcm3 : cm = tk + L := by omega
            have ht : ((L : Int) != (cm : Int) - (tk : Int)) = false := by simp; omega
            clear hcm2 hl2
            have HC3 := Aside0.mk hcm3
            clear hcm3
            go_wp2_with fail
            refine (sheld_calls _ p _ _ HT2.out).mono ?_
            rw [← HL2.out]
            rintro e w3 ⟨rfl, rfl⟩
            go_wp2_with fail
            exact ⟨⟨i + 1, cm, tk, s2, by omega, by omega, by omega, by omega, rfl, rfl, by go_num, ⟨by rw [← HL2.out]; exact HC3.out⟩, HB2, HT2⟩, by simp [intOf]; omega⟩
          · have hcm3 : cm + b.length = tk + L := by omega
            have ht : ((L : Int) != (cm : Int) + (b.length : Int) - (tk : Int)) = false := by simp; omega
            clear hcm2 hl2
            have HC3 := Aside0.mk hcm3
            clear hcm3
            go_wp2_with fail
            refine (sheld_calls _ p _ _ HT2.out).mono ?_
            rw [← HL2.out]
            rintro e w3 ⟨rfl, rfl⟩
            go_wp2_with fail
            exact ⟨⟨i + 1, cm + b.length, tk, s2, by omega, by omega, by omega, by omega, by go_num, rfl, by go_num, ⟨by rw [← HL2.out]; exact HC3.out⟩, HB2, HT2⟩, by simp [intOf]; omega⟩
        · have b0 : (kd == 0) = false := beq_eq_false_iff_ne.2 (by omega)
          have b1 : (kd == 1) = true := beq_iff_eq.2 hk
          clear hk
          have hn2 := HOI.out.2.1.2
          dsimp only at hn2
          go_wp2_with fail
          obtain ⟨w0, hw0⟩ : ∃ w0, w0 = wr.alloc (.cells #[.int .i64 kd, .int .i64 n, .slice B b.length c1] 62) := ⟨_, rfl⟩
          have hb0 : Below wr.heap.size wr w0 := by rw [hw0]; exact below_alloc (Below.refl _ _) _
          have hh0 : w0.heap[wr.heap.size]? = some (.cells #[.int .i64 kd, .int .i64 n, .slice B b.length c1] 62 (0, 0)) := by rw [hw0]; exact heap_alloc_new wr _
          rw [← hw0]
          have HB0 := Aside0.mk hb0
          have HH0 := Aside0.mk hh0
          have HBW := Aside0.mk (HB.out.trans (hb0.mono hs0))
          clear hw0 hb0 hh0 k0 k1 k2
          refine (sget_in' (n := n) (HTN.out _ HB0.out) HBW.out (Nat.le_refl _) hn2).mono ?_
          rintro e w2 ⟨A2, d2, rfl, ht2, ho2, hk2, hb2⟩
          have HB2 := Aside0.mk hb2
          have HH2 := Aside0.mk (kept_blk hk2 HH0.out (Nat.le_refl _))
          obtain ⟨e0, e1, e2, g0, g1, g2⟩ := three_cells HH2.out
          rcases SS.get_cases s n with ⟨h1, h2, h3, h4⟩ | ⟨h1, m, h2, h3, h4, h5⟩
          · have HGE : Aside0 ((s.get n).err = (s.get n).err) := ⟨rfl⟩
            obtain ⟨er, her⟩ : ∃ er, er = (s.get n).err := ⟨_, rfl⟩
            rw [h2] at ht2
            rw [h3, h4]
            rw [← her] at h1 ⊢
            have HER := Aside0.mk her
            have HG3 := Aside0.mk (And.intro h3 h4)
            have HT2 := Aside0.mk ht2
            have he1 : (er != 0) = true := by simpa using h1
            have he2 : (er != er) = false := by simp
            clear ht2 ho2 hk2 hb2 her h1 h2 h3 h4
            dsimp only [List.length_nil]
            go_wp2_with fail
            refine (sget_in' (n := n) HT2.out HB2.out (Nat.le_refl _) hn2).mono ?_
            rintro e w3 ⟨A3, d3, rfl, ht3, ho3, hk3, hb3⟩
            rw [HG3.out.1, HG3.out.2, ← HER.out]
            have HB3 := Aside0.mk hb3
            have HT3 : Aside0 (StreamAt w3 p s (fun k => w.heap.size ≤ k)) := ⟨by
              rcases SS.get_cases s n with ⟨_, h2, _, _⟩ | ⟨h1, _⟩
              · rw [h2] at ht3
                exact ht3.mono (fun k hk _ => hk.1)
              · rw [← HER.out] at h1
                rw [h1] at he1
                simp at he1⟩
            clear e0 e1 e2 g0 g1 g2
            obtain ⟨e0, e1, e2, g0, g1, g2⟩ := three_cells (kept_blk hk3 HH2.out (Nat.le_refl _))
            clear ht3 ho3 hk3 hb3
            obtain ⟨L, hL⟩ : ∃ L, L = s.held.length := ⟨_, rfl⟩
            have HL2 := Aside0.mk hL
            have hcm2 := HC.out
            rw [← hL] at hcm2
            have ht : ((L : Int) != (cm : Int) - (tk : Int)) = false := by simp; omega
            clear hcm2 hL
            go_wp2_with fail
            refine (sheld_calls _ p _ _ HT3.out).mono ?_
            rw [← HL2.out]
            rintro e w4 ⟨rfl, rfl⟩
            go_wp2_with fail
            exact ⟨⟨i + 1, cm, tk, s, by omega, by omega, by omega, by omega, rfl, by go_num, by go_num, HC, HB3, HT3⟩, by simp [intOf]; omega⟩
          · have hol : (s.get n).out.length = m := by rw [h4, List.length_take]; omega
            have hhl : (s.get n).st.held.length + m = s.held.length := by rw [h5, List.length_drop]; omega
            rw [hol, h1]
            obtain ⟨s2, hs2⟩ : ∃ s2, s2 = (s.get n).st := ⟨_, rfl⟩
            obtain ⟨wh, hwh⟩ : ∃ wh, wh = (s.get n).whole := ⟨_, rfl⟩
            rw [← hs2] at ht2 hhl
            rw [← hwh]
            have HT2 : Aside0 (StreamAt w2 p s2 (fun k => w.heap.size ≤ k)) := ⟨ht2.mono (fun k hk _ => hk.1)⟩
            obtain ⟨L, hL⟩ : ∃ L, L = s2.held.length := ⟨_, rfl⟩
            have HL2 := Aside0.mk hL
            have hcm2 := HC.out
            rw [← hL] at hhl
            have hcm3 : cm = tk + m + L := by omega
            have ht : ((L : Int) != (cm : Int) - ((tk : Int) + (m : Int))) = false := by simp; omega
            have hnm : ¬ n < (m : Int) := by omega
            clear hcm2 hL ht2 ho2 hk2 hb2 h1 h2 h3 h4 h5 hol hhl hs2 hwh
            have HC3 := Aside0.mk hcm3
            have htk2 : tk + m ≤ cm := by omega
            clear hcm3
            go_wp2_with fail
            all_goals
              refine (sheld_calls _ p _ _ HT2.out).mono ?_
              rw [← HL2.out]
              rintro e w4 ⟨rfl, rfl⟩
              go_wp2_with fail
              exact ⟨⟨i + 1, cm, tk + m, s2, by omega, by omega, by omega, by omega, rfl, by go_num, by go_num, ⟨by rw [← HL2.out]; exact HC3.out⟩, HB2, HT2⟩, by simp [intOf]; omega⟩
        · have b0 : (kd == 0) = false := beq_eq_false_iff_ne.2 (by omega)
          have b1 : (kd == 1) = false := beq_eq_false_iff_ne.2 (by omega)
          have b2 : (kd == 2) = true := beq_iff_eq.2 hk
          clear hk
          go_wp2_with fail
          obtain ⟨w0, hw0⟩ : ∃ w0, w0 = wr.alloc (.cells #[.int .i64 kd, .int .i64 n, .slice B b.length c1] 62) := ⟨_, rfl⟩
          have hb0 : Below wr.heap.size wr w0 := by rw [hw0]; exact below_alloc (Below.refl _ _) _
          have hh0 : w0.heap[wr.heap.size]? = some (.cells #[.int .i64 kd, .int .i64 n, .slice B b.length c1] 62 (0, 0)) := by rw [hw0]; exact heap_alloc_new wr _
          rw [← hw0]
          have HB0 := Aside0.mk hb0
          have HH0 := Aside0.mk hh0
          have HBW := Aside0.mk (HB.out.trans (hb0.mono hs0))
          clear hw0 hb0 hh0 k0 k1 k2
          refine (send_in (HTN.out _ HB0.out) HBW.out (Nat.le_refl _) HBW.out.size).mono ?_
          rintro e w2 ⟨rfl, ht2, hk2, hb2⟩
          have HB2 := Aside0.mk hb2
          obtain ⟨e0, e1, e2, g0, g1, g2⟩ := three_cells (kept_blk hk2 HH0.out (Nat.le_refl _))
          have hcs := SS.fin_held s
          obtain ⟨s2, hs2⟩ : ∃ s2, s2 = s.fin.1 := ⟨_, rfl⟩
          rw [← hs2] at ht2 hcs
          obtain ⟨L, hL⟩ : ∃ L, L = s2.held.length := ⟨_, rfl⟩
          have HL2 := Aside0.mk hL
          have HT2 := Aside0.mk ht2
          have hcm2 := HC.out
          rw [← hcs, ← hL] at hcm2
          have ht : ((L : Int) != (cm : Int) - (tk : Int)) = false := by simp; omega
          have HC3 := Aside0.mk hcm2
          clear ht2 hk2 hb2 hs2 hL hcm2 hcs
          go_wp2_with fail
          refine (sheld_calls _ p _ _ HT2.out).mono ?_
          rw [← HL2.out]
          rintro e w3 ⟨rfl, rfl⟩
          go_wp2_with fail
          exact ⟨⟨i + 1, cm, tk, s2, by omega, by omega, by omega, by omega, rfl, rfl, by go_num, ⟨by rw [← HL2.out]; exact HC3.out⟩, HB2, HT2⟩, by simp [intOf]; omega⟩
        · obtain ⟨hk0, hk1, hk2⟩ := hk
          have b0 : (kd == 0) = false := beq_eq_false_iff_ne.2 hk0
          have b1 : (kd == 1) = false := beq_eq_false_iff_ne.2 hk1
          have b2 : (kd == 2) = false := beq_eq_false_iff_ne.2 hk2
          clear hk0 hk1 hk2
          have HT3 := Aside0.mk (HT.out.below (below_alloc (Below.refl wr.heap.size wr) (.cells #[.int .i64 kd, .int .i64 n, .slice B b.length c1] 62)))
          have HB3 := Aside0.mk (below_alloc HB.out (.cells #[.int .i64 kd, .int .i64 n, .slice B b.length c1] 62))
          obtain ⟨L, hL⟩ : ∃ L, L = s.held.length := ⟨_, rfl⟩
          have HL2 := Aside0.mk hL
          have hcm2 := HC.out
          rw [← hL] at hcm2
          have ht : ((L : Int) != (cm : Int) - (tk : Int)) = false := by simp; omega
          clear hcm2 hL
          go_wp2_with fail
          refine (sheld_calls _ p _ _ HT3.out).mono ?_
          rw [← HL2.out]
          rintro e w4 ⟨rfl, rfl⟩
          go_wp2_with fail
          exact ⟨⟨i + 1, cm, tk, s, by omega, by omega, by omega, by omega, rfl, rfl, by go_num, HC, HB3, HT3⟩, by simp [intOf]; omega⟩
    · rcases hend with rfl | ⟨hlt, rfl⟩
      all_goals
        go_wp2_with fail
        refine (salive_calls _).mono ?_
        rintro e w3 ⟨rfl, hb3⟩
        have HB3 := Aside0.mk (HB.out.trans (hb3.mono HB.out.size))
        clear hb3
        go_wp2_with fail
        go_ret
        exact ⟨rfl, HB3.out⟩
end Go.Proofs.Ytilogpjbdemceaa.Oct
