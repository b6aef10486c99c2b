
import Derived.Test.YtobljkhidgbeoaaZ23
/- The queue: Take. -/
namespace Go.Proofs.Ytobljkhidgbeoaa.Oct
open Go.RowKit Go.Proofs.YtobljkhidgbeoaaW.PrintWords Go.Proofs.Ytobljkhidgbeoaa.M
set_option linter.unusedVariables false
set_option linter.unusedSimpArgs false
attribute [local go_sem] Oper.semAt_some
def QTakeR (b : Nat) (r : Raw) (x : QU × Int × Int) (e : Ending) (l' : List Part) : Prop := ∃ r' M', e = .returned (.tuple #[.int .u64 x.2.1, .int .i64 x.2.2]) ∧ QuIs r' M' x.1 ∧ r'.kvs = r.kvs ∧ l' = quL b r' M' x.1.items
/-- Take's own cells -/
def takeL (b : Nat) (n : Int) (p2 p3 p7 p8 Qb Nb : Nat) (v e : Int) : List Part :=
  [pt p7 (.cells #[.int .u64 v] 71), pt p8 (.cells #[.int .i64 e] 24), pt p3 (.cells #[.int .i64 n] 3), pt p2 (.cells #[.pointer (some ⟨b, 34, none⟩)] 113), pt Qb (.cells #[.pointer (some ⟨b, 34, none⟩)] 113), pt Nb (.cells #[.int .i64 n] 3)]
/-- how the round leaves -/
def TakeX (b : Nat) (r : Raw) (q : QU) (n : Int) (p2 p3 p7 p8 Qb Nb : Nat) (c : Code) (l' : List Part) : Prop :=
  c = .exit 0 ∧ ∃ r' M', QuIs r' M' (q.take n).1 ∧ r'.kvs = r.kvs ∧ l' = takeL b n p2 p3 p7 p8 Qb Nb (q.take n).2.1 (q.take n).2.2 ++ quL b r' M' (q.take n).1.items
theorem item_at {v : Value} {l : List QI} {W : World} {F : Nat → Prop} {A : Option Addr} {c : Nat} (h : (itemP v l).P W F) (e : v = .slice A l.length c) : ∀ k, k < l.length → ∃ ad, A = some ad ∧ W.cell? (ad.add (k * 3)) = some (.int .i64 (l.getD k qi0).num) ∧ W.cell? ⟨(ad.add (k * 3)).block, (ad.add (k * 3)).off + 1, none⟩ = some (.int .u64 (l.getD k qi0).val) ∧ W.cell? ⟨(ad.add (k * 3)).block, (ad.add (k * 3)).off + 2, none⟩ = some (.int .i64 (l.getD k qi0).work) ∧ W.frozen? ⟨(ad.add (k * 3)).block, (ad.add (k * 3)).off + 2, none⟩ = false := by
  obtain ⟨A', c', e', _, _, hat⟩ := item_form h
  rw [e] at e'
  injection e' with e1
  subst e1
  exact hat
theorem qFront_some {l : List QI} {n : Int} {k : Nat} (h : qFront l n = some k) : k < l.length := by
  unfold qFront at h
  rw [List.findIdx?_eq_some_iff_getElem] at h
  exact h.1
set_option maxRecDepth 100000 in
set_option maxHeartbeats 8000000 in
theorem qtake_calls (w : World) (F : Nat → Prop) (b : Nat) (r : Raw) (M : QM) (q : QU) (n : Int) (hq : QuIs r M q) (hs : q.small) (h : Sep (quL b r M q.items) w F) :
    Calls Try.prog 51 #[.pointer (some ⟨b, 34, none⟩), .int .i64 n] w (Ret w F (QTakeR b r (q.take n))) := by
  have HST0 := Aside0.mk (St.start h)
  have HQ := Aside0.mk hq
  have HSM := Aside0.mk hs
  have HF : Aside0 (∀ W, Below w.heap.size w W → Calls Try.prog 71 #[.pointer (some ⟨b, 34, none⟩), .int .i64 n] W fun e w' => e = .returned (.int .i64 (q.fit n)) ∧ w' = W) := ⟨fun W hb => qfit_calls W (New w F) b r M q n HQ.out HSM.out (HST0.out.below hb).1⟩
  by_cases hf : q.fit n = 0
  · rw [hf] at HF
    have hil := hs.items
    obtain ⟨A, c, e, _, _, _⟩ := item_form (h.pick [1] (by decide)).one
    have HE := Aside0.mk e
    have HFT := Aside0.mk hf
    clear hq hs h e hf
    refine (callsIn_wide (n := 6)).1 ?_
    refine callsIn_of_wp_marks Try.func51 rfl trivial ?_ rfl
    simp only [Try.ntmps51, List.size_toArray, List.length_cons, List.length_nil, Nat.reduceAdd, Nat.reduceSub, Array.replicate_succ, Array.replicate_zero, List.push_toArray, List.append_toArray, List.nil_append, List.cons_append]
    refine wpIn_wide.2 ?_
    go_wp2
    go_step3
    go_wp2_with fail
    refine (HF.out _ (below_alloc (below_alloc (Below.refl _ _) _) _)).mono ?_
    rintro e W1 ⟨rfl, hw⟩
    have hw := hw.symm
    subst hw
    clear HF
    go_wp2
    go_step3
    go_wp2_with (go_at_call 73; refine ((callsIn_wide (n := 3)).1 (othersf_calls _ b n _)).mono ?_; rintro e w' ⟨rfl, rfl⟩)
    obtain ⟨W0, hW0⟩ : ∃ W0, W0 = (((((w.alloc (.cells #[.pointer (some ⟨b, 34, none⟩)] 113)).alloc (.cells #[.int .i64 n] 3)).alloc (.cells #[.int .u64 0] 71)).alloc (.cells #[.int .i64 140] 24)).alloc (.cells #[.pointer (some ⟨b, 34, none⟩)] 113)).alloc (.cells #[.int .i64 n] 3) := ⟨_, rfl⟩
    obtain ⟨p2, hp2⟩ : ∃ p2, p2 = w.heap.size := ⟨_, rfl⟩
    obtain ⟨p3, hp3⟩ : ∃ p3, p3 = w.heap.size + 1 := ⟨_, rfl⟩
    obtain ⟨p7, hp7⟩ : ∃ p7, p7 = w.heap.size + 1 + 1 := ⟨_, rfl⟩
    obtain ⟨p8, hp8⟩ : ∃ p8, p8 = w.heap.size + 1 + 1 + 1 := ⟨_, rfl⟩
    obtain ⟨Qb, hQb⟩ : ∃ Qb, Qb = w.heap.size + 1 + 1 + 1 + 1 := ⟨_, rfl⟩
    obtain ⟨Nb, hNb⟩ : ∃ Nb, Nb = w.heap.size + 1 + 1 + 1 + 1 + 1 := ⟨_, rfl⟩
    have HST1 : Aside0 (St w F W0 (takeL b n p2 p3 p7 p8 Qb Nb 0 140 ++ quL b r M q.items)) := ⟨by
      have h1 := (((((HST0.out.alloc (.cells #[.pointer (some ⟨b, 34, none⟩)] 113)).alloc (.cells #[.int .i64 n] 3)).alloc (.cells #[.int .u64 0] 71)).alloc (.cells #[.int .i64 140] 24)).alloc (.cells #[.pointer (some ⟨b, 34, none⟩)] 113)).alloc (.cells #[.int .i64 n] 3)
      simp only [World.size_alloc] at h1
      rw [← hW0, ← hNb, ← hQb, ← hp8, ← hp7, ← hp3, ← hp2] at h1
      exact h1.pick [3, 2, 4, 5, 1, 0, 6, 7, 8, 9] (by decide)⟩
    rw [← hNb, ← hQb, ← hp8, ← hp7, ← hW0]
    rw [show (Value.pointer (some ⟨w.heap.size, 0, none⟩)) = Value.pointer (some ⟨p2, 0, none⟩) by rw [hp2], show (Value.pointer (some ⟨w.heap.size + 1, 0, none⟩)) = Value.pointer (some ⟨p3, 0, none⟩) by rw [hp3]]
    clear hW0 hp2 hp3 hp7 hp8 hQb hNb
    obtain ⟨v9, hv9⟩ : ∃ v, v = Value.pointer (A.map (fun ad => ad.add ((qFront q.items n).getD 0 * 3))) := ⟨_, rfl⟩
    have HV9 := Aside0.mk hv9
    have HIL := Aside0.mk hil
    clear hv9 hil
    have HOF : Aside0 (OF Qb Nb b A q.items.length c n W0) := ⟨by
      have h3 := (Raw.facts HQ.out.ok (HST1.out.pick [6] (by decide)).heap).2.2.1
      rw [HE.out] at h3
      exact ⟨(heap1 (HST1.out.pick [4] (by decide)).heap).1, (heap1 (HST1.out.pick [5] (by decide)).heap).1, h3⟩⟩
    have HIT := Aside0.mk (item_at (HST1.out.pick [7] (by decide)).1.one HE.out)
    refine (wpIn_wide (n := 6)).1 ?_
    refine loop_once (n := 6) (gf := 80) (lb := #[.pointer (some ⟨Qb, 0, none⟩), .pointer (some ⟨Nb, 0, none⟩)]) rfl (enters_of Try.func80 (by kernel_rfl) rfl) (enc := #[v9]) rfl (N := qFront q.items n = none) (B := ∃ k, qFront q.items n = some k) HST1.out (TakeX b r q n p2 p3 p7 p8 Qb Nb) (OQ Qb Nb b n) ?xf ?hit ?a1 ?assign ?body ?done ?stop
    case xf =>
      rintro Pl Pd cc l' W' ⟨_, r', M', _, _, rfl⟩ hst
      exact ⟨(heap1 (hst.pick [6] (by decide)).heap).1, (heap1 (hst.pick [7] (by decide)).heap).1⟩
    case hit =>
      intro l V X hb hX hY
      refine others1_in (6 - 1) (by decide) l Qb Nb b A c q.items n V X (HOF.out.below hb) (fun k hk => ?_) HIL.out hX (fun W2 hb2 k ad hk ha => ?_)
      · obtain ⟨ad, h1, _, _, h4, _⟩ := HIT.out k hk
        exact ⟨ad, h1, cell_bel h4 hb⟩
      · have h9 := hY ⟨k, hk⟩ W2 hb2
        rw [HV9.out, hk, ha] at h9
        exact h9
    case assign =>
      intro l W K hK
      gi_wp2
      exact hK
    case body =>
      rintro ⟨k, hk⟩ l D o o' U hD hl hst
      have hkl := qFront_some hk
      obtain ⟨ad, hA, i0, i1, i2, f2⟩ := item_at (hst.pick [9] (by decide)).1.one HE.out k hkl
      have h9 : v9 = .pointer (some (ad.add (k * 3))) := by rw [HV9.out, hk, hA]; rfl
      rw [h9]
      have HST2 := Aside0.mk hst
      obtain ⟨c7, f7⟩ := heap1 (hst.pick [2] (by decide)).heap
      obtain ⟨c8, f8⟩ := heap1 (hst.pick [3] (by decide)).heap
      obtain ⟨c3, _⟩ := heap1 (hst.pick [4] (by decide)).heap
      obtain ⟨c2, _⟩ := heap1 (hst.pick [5] (by decide)).heap
      obtain ⟨it, hit⟩ : ∃ it, it = q.items.getD k qi0 := ⟨_, rfl⟩
      rw [← hit] at i0 i1 i2
      cases hw0 : (it.work != 0) with
      | true =>
        have HX : Aside0 (q.take n = (q, 0, 120)) := ⟨by
          unfold QU.take
          rw [if_neg (by rw [HFT.out]; decide), hk]
          show (if (q.items.getD k qi0).work ≠ 0 then _ else _) = _
          rw [← hit, if_pos (by simpa using hw0)]⟩
        have HS3 : Aside0 (St w F (U.setCell ⟨p8, 0, none⟩ (.int .i64 120)) (pt l o :: pt D o' :: (takeL b n p2 p3 p7 p8 Qb Nb 0 120 ++ quL b r M q.items))) := ⟨((hst.pick [3, 0, 1, 2, 4, 5, 6, 7, 8, 9, 10, 11] (by decide)).set 0 (.int .i64 120)).pick [1, 2, 3, 0, 4, 5, 6, 7, 8, 9, 10, 11] (by decide)⟩
        clear hst hk hkl hit h9 hA c3 c2 i0 i1 f2
        gi_wp2
        exact ⟨_, ⟨rfl, r, M, by rw [HX.out]; exact HQ.out, rfl, by rw [HX.out]⟩, HS3.out⟩
      | false =>
        have hwz : it.work = 0 := by simpa using hw0
        have HX : Aside0 (q.take n = (QU.note ⟨q.items.set k ⟨it.num, it.val, n⟩, q.works, q.given⟩ n ⟨4, it.num, it.val⟩, it.val, 0)) := ⟨by
          unfold QU.take
          rw [if_neg (by rw [HFT.out]; decide), hk]
          show (if (q.items.getD k qi0).work ≠ 0 then _ else ((QU.note ⟨q.items.set k ⟨(q.items.getD k qi0).num, (q.items.getD k qi0).val, n⟩, q.works, q.given⟩ n ⟨4, (q.items.getD k qi0).num, (q.items.getD k qi0).val⟩), (q.items.getD k qi0).val, (0 : Int))) = _
          rw [← hit, if_neg (by simpa using hwz)]⟩
        obtain ⟨P2, hP2⟩ : ∃ P2 : Addr, P2 = ⟨(ad.add (k * 3)).block, (ad.add (k * 3)).off + 2, none⟩ := ⟨_, rfl⟩
        have HS3 : Aside0 (St w F (U.drew.setCell ⟨(ad.add (k * 3)).block, (ad.add (k * 3)).off + 2, none⟩ (.int .i64 n)) (pt l o :: pt D o' :: (takeL b n p2 p3 p7 p8 Qb Nb 0 140 ++ quL b r M (q.items.set k ⟨it.num, it.val, n⟩)))) := ⟨by
          have e0 : r.iv = .slice (some ad) q.items.length c := by rw [HE.out, hA]
          have h0 := (hst.drew).pick [9, 0, 1, 2, 3, 4, 5, 6, 7, 8, 10, 11] (by decide)
          have h1 : St w F U.drew (itemP (.slice (some ad) q.items.length c) q.items :: [pt l o, pt D o', pt p7 (.cells #[.int .u64 0] 71), pt p8 (.cells #[.int .i64 140] 24), pt p3 (.cells #[.int .i64 n] 3), pt p2 (.cells #[.pointer (some ⟨b, 34, none⟩)] 113), pt Qb (.cells #[.pointer (some ⟨b, 34, none⟩)] 113), pt Nb (.cells #[.int .i64 n] 3), pt b r.obj, wrowP r.wv M, qObjs M]) := by rw [← e0]; exact h0
          have h2 := h1.item_set (x := n) (k := k) hkl
          rw [← e0, ← hit] at h2
          exact h2.pick [1, 2, 3, 4, 5, 6, 7, 8, 9, 0, 10, 11] (by decide)⟩
        have HS4 : Aside0 (St w F ((U.drew.setCell ⟨(ad.add (k * 3)).block, (ad.add (k * 3)).off + 2, none⟩ (.int .i64 n)).setCell ⟨p7, 0, none⟩ (.int .u64 it.val)) (pt l o :: pt D o' :: (takeL b n p2 p3 p7 p8 Qb Nb it.val 140 ++ quL b r M (q.items.set k ⟨it.num, it.val, n⟩)))) := ⟨((HS3.out.pick [2, 0, 1, 3, 4, 5, 6, 7, 8, 9, 10, 11] (by decide)).set 0 (.int .u64 it.val)).pick [1, 2, 0, 3, 4, 5, 6, 7, 8, 9, 10, 11] (by decide)⟩
        have HS5 : Aside0 (St w F (((U.drew.setCell ⟨(ad.add (k * 3)).block, (ad.add (k * 3)).off + 2, none⟩ (.int .i64 n)).setCell ⟨p7, 0, none⟩ (.int .u64 it.val)).setCell ⟨p8, 0, none⟩ (.int .i64 0)) (pt l o :: pt D o' :: (takeL b n p2 p3 p7 p8 Qb Nb it.val 0 ++ quL b r M (q.items.set k ⟨it.num, it.val, n⟩)))) := ⟨((HS4.out.pick [3, 0, 1, 2, 4, 5, 6, 7, 8, 9, 10, 11] (by decide)).set 0 (.int .i64 0)).pick [1, 2, 3, 0, 4, 5, 6, 7, 8, 9, 10, 11] (by decide)⟩
        have HFACT : Aside0 (∀ W v e (L : List QI), L.length = q.items.length → (L.getD k qi0).num = it.num → (L.getD k qi0).val = it.val → ∀ (r' : Raw) (M' : QM), r'.iv = r.iv → St w F W (pt l o :: pt D o' :: (takeL b n p2 p3 p7 p8 Qb Nb v e ++ quL b r' M' L)) → W.cell? ⟨p2, 0, none⟩ = some (.pointer (some ⟨b, 34, none⟩)) ∧ W.cell? ⟨p3, 0, none⟩ = some (.int .i64 n) ∧ W.cell? (ad.add (k * 3)) = some (.int .i64 it.num) ∧ W.cell? ⟨(ad.add (k * 3)).block, (ad.add (k * 3)).off + 1, none⟩ = some (.int .u64 it.val)) := ⟨fun W v e L hL hn hv r' M' hi h => by
          obtain ⟨ad', hA', j0, j1, _, _⟩ := item_at (h.pick [9] (by decide)).1.one (by rw [hi, HE.out, hL]) k (by rw [hL]; exact hkl)
          rw [hA] at hA'
          injection hA' with hA'
          subst hA'
          rw [hn] at j0
          rw [hv] at j1
          exact ⟨(heap1 (h.pick [5] (by decide)).heap).1, (heap1 (h.pick [4] (by decide)).heap).1, j0, j1⟩⟩
        have hLl : (q.items.set k ⟨it.num, it.val, n⟩).length = q.items.length := by simp
        have hLg : (q.items.set k ⟨it.num, it.val, n⟩).getD k qi0 = ⟨it.num, it.val, n⟩ := by simp [List.getD_eq_getElem?_getD, hkl]
        have HL := Aside0.mk (And.intro hLl hLg)
        have hS1' := HFACT.out _ _ _ _ hLl (by rw [hLg]) (by rw [hLg]) r M rfl HS3.out
        have hS2' := HFACT.out _ _ _ _ hLl (by rw [hLg]) (by rw [hLg]) r M rfl HS4.out
        have hS3' := HFACT.out _ _ _ _ hLl (by rw [hLg]) (by rw [hLg]) r M rfl HS5.out
        obtain ⟨d7, g7⟩ := heap1 (HS3.out.pick [2] (by decide)).heap
        obtain ⟨d8, g8⟩ := heap1 (HS4.out.pick [3] (by decide)).heap
        have HPOST : Aside0 (∀ (r' : Raw) (M' : QM) W4, r'.iv = r.iv → St w F W4 ((quL b r' M' (q.items.set k ⟨it.num, it.val, n⟩)) ++ (pt l o :: pt D o' :: takeL b n p2 p3 p7 p8 Qb Nb it.val 0)) → W4.cell? ⟨p2, 0, none⟩ = some (.pointer (some ⟨b, 34, none⟩)) ∧ W4.cell? ⟨p3, 0, none⟩ = some (.int .i64 n) ∧ W4.cell? (ad.add (k * 3)) = some (.int .i64 it.num) ∧ W4.cell? ⟨(ad.add (k * 3)).block, (ad.add (k * 3)).off + 1, none⟩ = some (.int .u64 it.val)) := ⟨fun r' M' W4 hi h => HFACT.out W4 it.val 0 _ HL.out.1 (by rw [HL.out.2]) (by rw [HL.out.2]) r' M' hi (h.pick [4, 5, 6, 7, 8, 9, 10, 11, 0, 1, 2, 3] (by decide))⟩
        have HNT := Aside0.mk (St.call (l1 := quL b r M (q.items.set k ⟨it.num, it.val, n⟩)) (l2 := pt l o :: pt D o' :: takeL b n p2 p3 p7 p8 Qb Nb it.val 0) (HS5.out.drew.pick [8, 9, 10, 11, 0, 1, 2, 3, 4, 5, 6, 7] (by decide)) (fun F1 h1 => qnote_calls _ F1 b r M ⟨q.items.set k ⟨it.num, it.val, n⟩, q.works, q.given⟩ n ⟨4, it.num, it.val⟩ ⟨HQ.out.ok, HQ.out.works, HQ.out.given⟩ ⟨by simp only [List.length_set]; exact HSM.out.items, HSM.out.works, HSM.out.lists, HSM.out.num⟩ h1))
        obtain ⟨xn, xv, xw⟩ := it
        simp only at i0 i1 i2 hw0 hwz HX HS3 HS4 HS5 HFACT hS1' hS2' hS3' HPOST HNT d7 d8 g8
        clear hst hk hkl hit h9 hA hLl hLg HFACT hP2 P2
        gi_wp2
        have hS0 : U.drew.cell? ⟨p3, 0, none⟩ = some (.int .i64 n) ∧ U.drew.cell? ⟨(ad.add (k * 3)).block, (ad.add (k * 3)).off + 1, none⟩ = some (.int .u64 xv) := ⟨c3, i1⟩
        have hS1 := And.intro hS1'.2.1 hS1'.2.2.2
        have hS2 := And.intro hS2'.2.1 hS2'.2.2.2
        have hS3 := And.intro hS3'.2.1 hS3'.2.2.2
        have f2' : U.drew.frozen? ⟨(ad.add (k * 3)).block, (ad.add (k * 3)).off + 2, none⟩ = false := f2
        have e7 : (U.setCell ⟨(ad.add (k * 3)).block, (ad.add (k * 3)).off + 2, none⟩ (.int .i64 n)).cell? ⟨p7, 0, none⟩ = some (.int .u64 0) := d7
        have e7' : (U.setCell ⟨(ad.add (k * 3)).block, (ad.add (k * 3)).off + 2, none⟩ (.int .i64 n)).frozen? ⟨p7, 0, none⟩ = false := g7
        have e8 : ((U.setCell ⟨(ad.add (k * 3)).block, (ad.add (k * 3)).off + 2, none⟩ (.int .i64 n)).setCell ⟨p7, 0, none⟩ (.int .u64 xv)).cell? ⟨p8, 0, none⟩ = some (.int .i64 140) := d8
        have e8' : ((U.setCell ⟨(ad.add (k * 3)).block, (ad.add (k * 3)).off + 2, none⟩ (.int .i64 n)).setCell ⟨p7, 0, none⟩ (.int .u64 xv)).frozen? ⟨p8, 0, none⟩ = false := g8
        have i2' : U.drew.cell? ⟨(ad.add (k * 3)).block, (ad.add (k * 3)).off + 2, none⟩ = some (.int .i64 xw) := i2
        refine OctR.region_S (fun W' => W'.cell? ⟨p3, 0, none⟩ = some (.int .i64 n) ∧ W'.cell? ⟨(ad.add (k * 3)).block, (ad.add (k * 3)).off + 1, none⟩ = some (.int .u64 xv)) (by kernel_rfl) ?_
        refine OctR.anyS_at (i := 0) (d := 25) (v := .pointer (some (ad.add (k * 3)))) (by kernel_rfl) rfl rfl (by kernel_rfl) (by kernel_rfl) (by kernel_rfl) (fun _ _ _ h => h) (fun _ => rfl) rfl hS0 (by intro W' hW'; obtain ⟨q1, q2⟩ := hW'; go_simp) ?_
        dsimp only
        simp only [List.setIfInBounds_toArray, List.set_cons_zero, List.set_cons_succ]
        refine OctR.anyS_at (i := 1) (d := 26) (v := .int .i64 n) (by kernel_rfl) rfl rfl (by kernel_rfl) (by kernel_rfl) (by kernel_rfl) (fun _ _ _ h => h) (fun _ => rfl) rfl hS0 (by intro W' hW'; obtain ⟨q1, q2⟩ := hW'; go_simp) ?_
        dsimp only
        simp only [List.setIfInBounds_toArray, List.set_cons_zero, List.set_cons_succ]
        refine OctR.anyS_at (i := 2) (d := 27) (v := .pointer (some (ad.add (k * 3)))) (by kernel_rfl) rfl rfl (by kernel_rfl) (by kernel_rfl) (by kernel_rfl) (fun _ _ _ h => h) (fun _ => rfl) rfl hS0 (by intro W' hW'; obtain ⟨q1, q2⟩ := hW'; go_simp) ?_
        dsimp only
        simp only [List.setIfInBounds_toArray, List.set_cons_zero, List.set_cons_succ]
        refine OctR.anyS_at (i := 3) (d := 28) (v := .pointer (some (ad.add (k * 3)))) (by kernel_rfl) rfl rfl (by kernel_rfl) (by kernel_rfl) (by kernel_rfl) (fun _ _ _ h => h) (fun _ => rfl) rfl hS0 (by intro W' hW'; obtain ⟨q1, q2⟩ := hW'; go_simp) ?_
        dsimp only
        simp only [List.setIfInBounds_toArray, List.set_cons_zero, List.set_cons_succ]
        refine OctR.anyS_at (i := 4) (d := 29) (v := .pointer (some ⟨(ad.add (k * 3)).block, (ad.add (k * 3)).off + 1, none⟩)) (by kernel_rfl) rfl rfl (by kernel_rfl) (by kernel_rfl) (by kernel_rfl) (fun _ _ _ h => h) (fun _ => rfl) rfl hS0 (by intro W' hW'; obtain ⟨q1, q2⟩ := hW'; go_simp) ?_
        dsimp only
        simp only [List.setIfInBounds_toArray, List.set_cons_zero, List.set_cons_succ]
        refine OctR.anyS_at (i := 5) (d := 30) (v := .int .u64 xv) (by kernel_rfl) rfl rfl (by kernel_rfl) (by kernel_rfl) (by kernel_rfl) (fun _ _ _ h => h) (fun _ => rfl) rfl hS0 (by intro W' hW'; obtain ⟨q1, q2⟩ := hW'; go_simp) ?_
        dsimp only
        simp only [List.setIfInBounds_toArray, List.set_cons_zero, List.set_cons_succ]
        refine OctR.anyS_at (i := 6) (d := 31) (v := .pointer (some (ad.add (k * 3)))) (by kernel_rfl) rfl rfl (by kernel_rfl) (by kernel_rfl) (by kernel_rfl) (fun _ _ _ h => h) (fun _ => rfl) rfl hS0 (by intro W' hW'; obtain ⟨q1, q2⟩ := hW'; go_simp) ?_
        dsimp only
        simp only [List.setIfInBounds_toArray, List.set_cons_zero, List.set_cons_succ]
        refine OctR.anyS_at (i := 7) (d := 32) (v := .pointer (some ⟨(ad.add (k * 3)).block, (ad.add (k * 3)).off + 2, none⟩)) (by kernel_rfl) rfl rfl (by kernel_rfl) (by kernel_rfl) (by kernel_rfl) (fun _ _ _ h => h) (fun _ => rfl) rfl hS0 (by intro W' hW'; obtain ⟨q1, q2⟩ := hW'; go_simp) ?_
        dsimp only
        simp only [List.setIfInBounds_toArray, List.set_cons_zero, List.set_cons_succ]
        refine OctR.anyS_one (i := 8) (by kernel_rfl) rfl (fun K' hK => ?_)
        have HKA := Aside0.mk hK
        clear hK
        go_simp
        gi_wp2
        refine HKA.out _ _ hS1 ?_
        clear HKA K'
        refine OctR.anyS_one (i := 9) (by kernel_rfl) rfl (fun K' hK => ?_)
        have HKA := Aside0.mk hK
        clear hK
        go_simp
        gi_wp2
        refine HKA.out _ _ hS2 ?_
        clear HKA K'
        refine OctR.anyS_one (i := 10) (by kernel_rfl) rfl (fun K' hK => ?_)
        have HKA := Aside0.mk hK
        clear hK
        go_simp
        gi_wp2
        refine HKA.out _ _ hS3 ?_
        clear HKA K'
        refine OctR.anyS_done (by kernel_rfl) ?_ _
        have hT0 := hS3'
        gi_wp2
        refine OctR.region_S (fun W' => W'.cell? ⟨p2, 0, none⟩ = some (.pointer (some ⟨b, 34, none⟩)) ∧ W'.cell? ⟨p3, 0, none⟩ = some (.int .i64 n) ∧ W'.cell? (ad.add (k * 3)) = some (.int .i64 xn) ∧ W'.cell? ⟨(ad.add (k * 3)).block, (ad.add (k * 3)).off + 1, none⟩ = some (.int .u64 xv)) (by kernel_rfl) ?_
        have hfn : Fence.wide.fn 67 := trivial
        refine OctR.anyS_at (i := 0) (d := 33) (v := .pointer (some ⟨b, 34, none⟩)) (by kernel_rfl) rfl rfl (by kernel_rfl) (by kernel_rfl) (by kernel_rfl) (fun _ _ _ h => h) (fun _ => rfl) rfl hT0 (by intro W' hW'; obtain ⟨q1, q2, q3, q4⟩ := hW'; go_simp) ?_
        dsimp only
        simp only [List.setIfInBounds_toArray, List.set_cons_zero, List.set_cons_succ]
        refine OctR.anyS_at (i := 1) (d := 34) (v := .int .i64 n) (by kernel_rfl) rfl rfl (by kernel_rfl) (by kernel_rfl) (by kernel_rfl) (fun _ _ _ h => h) (fun _ => rfl) rfl hT0 (by intro W' hW'; obtain ⟨q1, q2, q3, q4⟩ := hW'; go_simp) ?_
        dsimp only
        simp only [List.setIfInBounds_toArray, List.set_cons_zero, List.set_cons_succ]
        refine OctR.anyS_at (i := 2) (d := 35) (v := .pointer (some (ad.add (k * 3)))) (by kernel_rfl) rfl rfl (by kernel_rfl) (by kernel_rfl) (by kernel_rfl) (fun _ _ _ h => h) (fun _ => rfl) rfl hT0 (by intro W' hW'; obtain ⟨q1, q2, q3, q4⟩ := hW'; go_simp) ?_
        dsimp only
        simp only [List.setIfInBounds_toArray, List.set_cons_zero, List.set_cons_succ]
        refine OctR.anyS_at (i := 3) (d := 36) (v := .pointer (some (ad.add (k * 3)))) (by kernel_rfl) rfl rfl (by kernel_rfl) (by kernel_rfl) (by kernel_rfl) (fun _ _ _ h => h) (fun _ => rfl) rfl hT0 (by intro W' hW'; obtain ⟨q1, q2, q3, q4⟩ := hW'; go_simp) ?_
        dsimp only
        simp only [List.setIfInBounds_toArray, List.set_cons_zero, List.set_cons_succ]
        refine OctR.anyS_at (i := 4) (d := 37) (v := .pointer (some (ad.add (k * 3)))) (by kernel_rfl) rfl rfl (by kernel_rfl) (by kernel_rfl) (by kernel_rfl) (fun _ _ _ h => h) (fun _ => rfl) rfl hT0 (by intro W' hW'; obtain ⟨q1, q2, q3, q4⟩ := hW'; go_simp) ?_
        dsimp only
        simp only [List.setIfInBounds_toArray, List.set_cons_zero, List.set_cons_succ]
        refine OctR.anyS_at (i := 5) (d := 38) (v := .int .i64 xn) (by kernel_rfl) rfl rfl (by kernel_rfl) (by kernel_rfl) (by kernel_rfl) (fun _ _ _ h => h) (fun _ => rfl) rfl hT0 (by intro W' hW'; obtain ⟨q1, q2, q3, q4⟩ := hW'; go_simp) ?_
        dsimp only
        simp only [List.setIfInBounds_toArray, List.set_cons_zero, List.set_cons_succ]
        refine OctR.anyS_at (i := 6) (d := 39) (v := .pointer (some (ad.add (k * 3)))) (by kernel_rfl) rfl rfl (by kernel_rfl) (by kernel_rfl) (by kernel_rfl) (fun _ _ _ h => h) (fun _ => rfl) rfl hT0 (by intro W' hW'; obtain ⟨q1, q2, q3, q4⟩ := hW'; go_simp) ?_
        dsimp only
        simp only [List.setIfInBounds_toArray, List.set_cons_zero, List.set_cons_succ]
        refine OctR.anyS_at (i := 7) (d := 40) (v := .pointer (some (ad.add (k * 3)))) (by kernel_rfl) rfl rfl (by kernel_rfl) (by kernel_rfl) (by kernel_rfl) (fun _ _ _ h => h) (fun _ => rfl) rfl hT0 (by intro W' hW'; obtain ⟨q1, q2, q3, q4⟩ := hW'; go_simp) ?_
        dsimp only
        simp only [List.setIfInBounds_toArray, List.set_cons_zero, List.set_cons_succ]
        refine OctR.anyS_at (i := 8) (d := 41) (v := .pointer (some ⟨(ad.add (k * 3)).block, (ad.add (k * 3)).off + 1, none⟩)) (by kernel_rfl) rfl rfl (by kernel_rfl) (by kernel_rfl) (by kernel_rfl) (fun _ _ _ h => h) (fun _ => rfl) rfl hT0 (by intro W' hW'; obtain ⟨q1, q2, q3, q4⟩ := hW'; go_simp) ?_
        dsimp only
        simp only [List.setIfInBounds_toArray, List.set_cons_zero, List.set_cons_succ]
        refine OctR.anyS_at (i := 9) (d := 42) (v := .int .u64 xv) (by kernel_rfl) rfl rfl (by kernel_rfl) (by kernel_rfl) (by kernel_rfl) (fun _ _ _ h => h) (fun _ => rfl) rfl hT0 (by intro W' hW'; obtain ⟨q1, q2, q3, q4⟩ := hW'; go_simp) ?_
        dsimp only
        simp only [List.setIfInBounds_toArray, List.set_cons_zero, List.set_cons_succ]
        refine OctR.anyS_at (i := 10) (d := 43) (v := .agg #[.int .i64 4, .int .i64 xn, .int .u64 xv]) (by kernel_rfl) rfl rfl (by kernel_rfl) (by kernel_rfl) (by kernel_rfl) (fun _ _ _ h => h) (fun _ => rfl) rfl hT0 (by intro W' hW'; obtain ⟨q1, q2, q3, q4⟩ := hW'; go_simp) ?_
        dsimp only
        simp only [List.setIfInBounds_toArray, List.set_cons_zero, List.set_cons_succ]
        refine OctR.anyS_one (i := 11) (by kernel_rfl) rfl (fun K' hK => ?_)
        have HKA := Aside0.mk hK
        clear hK
        go_simp
        gi_wp2_with (gi_at_call 67; refine (CallsIn.inRound l (callsIn_wide.2 HNT.out)).mono ?_; rintro e W4 ⟨l', ⟨r', M', rfl, g1, g2, rfl⟩, hst4⟩)
        have HST4 := Aside0.mk hst4
        have HG := Aside0.mk (And.intro g1 g2)
        clear g1 g2 hst4
        have hT4 := HPOST.out r' M' W4 HG.out.2.2 HST4.out
        refine HKA.out _ _ hT4 ?_
        clear HKA K'
        refine OctR.anyS_done (by kernel_rfl) ?_ _
        gi_wp2
        exact ⟨_, ⟨rfl, r', M', by rw [HX.out]; exact HG.out.1, HG.out.2.1, by rw [HX.out]; rfl⟩, HST4.out.pick [4, 5, 6, 7, 8, 9, 10, 11, 0, 1, 2, 3] (by decide)⟩
    case done =>
      intro D V hN hst
      have HX : Aside0 (q.take n = (q, 0, 140)) := ⟨by unfold QU.take; rw [if_neg (by rw [HFT.out]; decide), hN]⟩
      have c7 := (heap1 (hst.pick [1] (by decide)).heap).1
      have c8 := (heap1 (hst.pick [2] (by decide)).heap).1
      have HST3 := Aside0.mk hst
      clear hst hN
      dsimp only
      go_wp2
      go_quiet (fail)
      have HST4 := Aside0.mk ((HST3.out.drewN nq).putO (.deferred none))
      have hk4 := (HST3.out.drewN nq).heap
      clear c7 c8
      go_wp2
      simp only [Exit.noGoto]
      refine ⟨by simp, .inl ⟨_, _, rfl, run_takeDeferred hk4, ?_⟩⟩
      refine ⟨.tuple #[.int .u64 0, .int .i64 140], by first | exact results_tmp2 rfl _ _ _ | simp [results, Try.results51, go_sem], ?_⟩
      rw [HX.out]
      exact (HST4.out.pick [7, 8, 9, 10] (by decide)).ret ⟨r, M, rfl, HQ.out, rfl, rfl⟩
    case stop =>
      rintro D cc l' V ⟨rfl, r', M', h1, h2, rfl⟩ hst
      have c7 := (heap1 (hst.pick [1] (by decide)).heap).1
      have c8 := (heap1 (hst.pick [2] (by decide)).heap).1
      have HST3 := Aside0.mk hst
      have H12 := Aside0.mk (And.intro h1 h2)
      clear hst h1 h2
      dsimp only
      refine wpIn_wide.2 ?_
      go_wp2
      go_quiet (fail)
      have HST4 := Aside0.mk ((HST3.out.drewN nq).putO (.deferred none))
      have hk4 := (HST3.out.drewN nq).heap
      clear c7 c8
      go_wp2
      simp only [Exit.noGoto]
      refine ⟨by simp, .inl ⟨_, _, rfl, run_takeDeferred hk4, ?_⟩⟩
      refine ⟨.tuple #[.int .u64 (q.take n).2.1, .int .i64 (q.take n).2.2], by first | exact results_tmp2 rfl _ _ _ | simp [results, Try.results51, go_sem], ?_⟩
      exact (HST4.out.pick [7, 8, 9, 10] (by decide)).ret ⟨r', M', rfl, H12.out.1, H12.out.2, rfl⟩
  · have HX : Aside0 (q.take n = (q, 0, q.fit n)) := ⟨by unfold QU.take; rw [if_pos hf]⟩
    generalize q.fit n = ec at HF HX hf
    have hne : (ec != 0) = true := bne_iff_ne.2 hf
    clear hq hs h hf
    refine (callsIn_wide (n := 6)).1 ?_
    refine callsIn_of_wp_marks Try.func51 rfl trivial ?_ rfl
    simp only [Try.ntmps51, List.size_toArray, List.length_cons, List.length_nil, Nat.reduceAdd, Nat.reduceSub, Array.replicate_succ, Array.replicate_zero, List.push_toArray, List.append_toArray, List.nil_append, List.cons_append]
    refine wpIn_wide.2 ?_
    go_wp2
    go_step3
    go_wp2_with fail
    refine (HF.out _ (below_alloc (below_alloc (Below.refl _ _) _) _)).mono ?_
    rintro e W1 ⟨rfl, hw⟩
    have hw := hw.symm
    subst hw
    go_wp2_with fail
    simp only [Exit.noGoto]
    refine ⟨.tuple #[.int .u64 0, .int .i64 ec], by first | exact results_tmp2 rfl _ _ _ | simp [results, Try.results51, go_sem], ?_⟩
    rw [HX.out]
    exact (HST0.out.below (below_alloc (below_alloc (Below.refl _ _) _) _)).ret ⟨r, M, rfl, HQ.out, rfl, rfl⟩
end Go.Proofs.Ytobljkhidgbeoaa.Oct
