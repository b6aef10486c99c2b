import Derived.Test.YtcnohnieoecpdaaWalAg
/- The document's Open. -/
namespace Go.Proofs.Ytcnohnieoecpdaa.Oct
open Go.RowKit Go.Proofs.YtcnohnieoecpdaaW.PrintWords Go.Proofs.Ytcnohnieoecpdaa.M
set_option linter.unusedVariables false
set_option linter.unusedSimpArgs false
def RetOR (base : Nat) (w : World) (x : Nat) (T : Nat → Prop) (u : TS) (e : Ending) (w' : World) : Prop :=
  ∃ y A c, e = .returned (.tuple #[.pointer (some ⟨y, 0, none⟩), .slice A (recsOf u.bs).length c]) ∧ MAt base w' y x u.opened (recsOf u.bs) (fun k => New w T k ∧ k < w'.heap.size) ∧ recK.C w' A (recsOf u.bs).length (recsOf u.bs) ∧ w.heap.size ≤ y ∧ Kept w T w'
theorem ropen_close {base : Nat} {w w1 w2 w3 w4 : World} {x : Nat} {u : TS} {T : Nat → Prop} {v : Value} {ls : List Rc} (hT : ∀ k, T k → base ≤ k ∧ k < w.heap.size) (hbs : base ≤ w.heap.size) (h1 : Below w.heap.size w w1) (h2 : Below w1.heap.size w1 w2) (hrw : RW w2 w1.heap.size v ls) (hll : ls.length ≤ 9223372036854775807)
    (hr : RefAt w4 x u (New w3 (New w2 T))) (h3 : Kept w2 T w3) (h4 : Kept w3 (New w2 T) w4) (hx : ∀ A n c, v = .slice A n c → n = ls.length) :
    MAt base (w4.alloc (.cells #[.pointer (some ⟨x, 0, none⟩), v] 70)) w4.heap.size x u ls (fun k => New w T k ∧ k < (w4.alloc (.cells #[.pointer (some ⟨x, 0, none⟩), v] 70)).heap.size) ∧
    (∃ A c, v = .slice A ls.length c ∧ recK.C (w4.alloc (.cells #[.pointer (some ⟨x, 0, none⟩), v] 70)) A ls.length ls) ∧ Kept w T (w4.alloc (.cells #[.pointer (some ⟨x, 0, none⟩), v] 70)) := by
  obtain ⟨w5, hw5⟩ : ∃ w5, w5 = w4.alloc (.cells #[.pointer (some ⟨x, 0, none⟩), v] 70) := ⟨_, rfl⟩
  have hb5 : Below w4.heap.size w4 w5 := by rw [hw5]; exact below_alloc (Below.refl _ _) _
  have hh5 : w5.heap[w4.heap.size]? = some (.cells #[.pointer (some ⟨x, 0, none⟩), v] 70 (0, 0)) := by rw [hw5]; exact heap_alloc_new w4 _
  rw [← hw5]
  have s1 := h1.size
  have s2 := h2.size
  have s3 := h3.size
  have s4 := h4.size
  have s5 : w4.heap.size < w5.heap.size := (Array.getElem?_eq_some_iff.1 hh5).1
  have hTN : ∀ k, T k → k < w.heap.size := fun k h => (hT k h).2
  have hk24 : Kept w2 T w4 := h3.trans h4 (fun k hl h => h.elim id (fun h => by have h' : w2.heap.size ≤ k := h; omega))
  have hk25 : Kept w2 T w5 := hk24.trans (Kept.of_below T hb5) (fun _ _ h => h)
  have hk2 : Kept w T w5 := ((Kept.of_below T h1).trans (Kept.of_below T h2) (fun _ _ h => h)).trans hk25 (fun _ _ h => h)
  obtain ⟨vs, a1, a2⟩ := hrw
  have hrow : ∀ k, v.ownBlock = some k → w1.heap.size ≤ k ∧ k < w2.heap.size := fun k e => ⟨own_base a1 k e, own_lt a1 k e⟩
  have hmr : MR base w5 (fun k => k = w4.heap.size ∨ v.ownBlock = some k) (fun k => w.heap.size ≤ k ∧ k < w2.heap.size ∧ v.ownBlock ≠ some k) v ls := by
    refine ⟨vs, (OwnAt.of_row (own_move a1 (fun k e => hk25.block k (hrow k e).2 (fun hT' => by have := hTN k hT'; have := (hrow k e).1; omega)))).lower (Nat.zero_le _), fun k e => .inr e, fun j r hj => ?_⟩
    obtain ⟨e1, u, e2, ho⟩ := a2 j r hj
    obtain ⟨B, c, rfl, _⟩ := ho.reads
    have hap := own_at_apart (OwnAt.of_row ho) (OwnAt.of_row a1) (by decide)
    refine ⟨e1, B, c, e2, ?_, fun W' hW' => ?_⟩
    · exact OB.cap ho
    · have hm : OB W' w1.heap.size (.slice B r.2.length c) r.2 := own_move ho (fun k e => by
        have k1 := own_base ho k e
        have k2 := own_lt ho k e
        exact (hW'.block k ⟨by omega, k2, fun e' => hap k e e'.symm⟩ (by omega)).trans (hk25.block k k2 (fun hT' => by have := hTN k hT'; omega)))
      obtain ⟨B', c', e', hC⟩ := hm.reads
      injection e' with e1 _ _
      subst e1
      exact hC
  refine ⟨⟨fun k => (T k ∨ w2.heap.size ≤ k) ∧ k < w4.heap.size, fun k => k = w4.heap.size ∨ v.ownBlock = some k, fun k => w.heap.size ≤ k ∧ k < w2.heap.size ∧ v.ownBlock ≠ some k, v, ?_, hh5, hmr, .inl rfl, ?_, ?_, ?_⟩, ?_, hk2⟩
  · refine RefAt.below (RefAt.mono hr (fun k h hl => ⟨?_, hl⟩)) hb5
    rcases h with (h | h) | h
    · exact .inl h
    · exact .inr h
    · have h' : w3.heap.size ≤ k := h
      exact .inr (by omega)
  · rintro k ⟨h | h, hl⟩
    · have := hTN k h
      exact ⟨fun e => e.elim (fun e => by omega) (fun e => by have := (hrow k e).1; omega), fun e => by have := e.1; omega⟩
    · exact ⟨fun e => e.elim (fun e => by omega) (fun e => by have := (hrow k e).2; omega), fun e => by have := e.2.1; omega⟩
  · rintro k (rfl | h) e
    · have := e.2.1; omega
    · exact e.2.2 h
  · rintro k (⟨h | h, hl⟩ | (rfl | h) | h)
    · exact ⟨(hT k h).1, by omega, .inl h, by omega⟩
    · exact ⟨by omega, by omega, .inr (show w.heap.size ≤ k by omega), by omega⟩
    · exact ⟨by omega, s5, .inr (show w.heap.size ≤ w4.heap.size by omega), s5⟩
    · have := hrow k h
      exact ⟨by omega, by omega, .inr (show w.heap.size ≤ k by omega), by omega⟩
    · have := h.1; have := h.2.1
      exact ⟨by omega, by omega, .inr (show w.heap.size ≤ k by omega), by omega⟩
  · obtain ⟨A, c, rfl, _⟩ := hmr.form
    exact ⟨A, c, rfl, hmr.C hll⟩
set_option maxRecDepth 20000 in
set_option maxHeartbeats 16000000 in
theorem ropen_calls (w : World) (base x : Nat) (u : TS) (T : Nat → Prop) (h : RefAt w x u T) (hT : ∀ k, T k → base ≤ k ∧ k < w.heap.size) (hbs : base ≤ w.heap.size) : Calls Try.prog 33 #[.pointer (some ⟨x, 0, none⟩)] w (RetOR base w x T u) := by
  have hok : u.ok := by obtain ⟨_, _, _, _, _, _, _, _, _, _, _, _, h⟩ := h; exact h
  obtain ⟨o1, o2, o3⟩ := opened_eq hok
  have HR := Aside0.mk h
  have HTT := Aside0.mk hT
  have HBS := Aside0.mk hbs
  have HBY := Aside0.mk hok.2.2.2.2
  have hbl : u.bs.length ≤ 65536 := Nat.le_trans hok.2.2.1 hok.2.1
  obtain ⟨ls, hls⟩ : ∃ ls, ls = recsOf u.bs := ⟨_, rfl⟩
  have HLS := Aside0.mk hls
  have HO1 := Aside0.mk o1
  have HO2 := Aside0.mk o2
  have HO3 := Aside0.mk o3
  have HLL : Aside0 (ls.length ≤ 65536) := ⟨by rw [hls]; exact recs_le hbl⟩
  rw [← hls] at HO1 HO2 HO3
  clear h hT hbs o1 o2 o3 hls hok
  go_enter Try.func33, Try.ntmps33
  go_wp2_with fail
  refine (rbytes_calls w x u T HR.out).mono ?_
  rintro e w1 ⟨v1, rfl, ho1, hb1⟩
  obtain ⟨A1, c1, rfl, hC1⟩ := ho1.reads
  have HRD := Aside0.mk (rread_calls w1 u.bs A1 c1 (OB.cap ho1) hC1 HBY.out (by omega))
  have HB1 := Aside0.mk hb1
  have HR1 := Aside0.mk (HR.out.below hb1)
  clear ho1 hb1 hC1
  go_wp2_with fail
  refine HRD.out.mono ?_
  rintro e w2 ⟨v2, rfl, hrw, hb2⟩
  rw [HO3.out]
  have hrw' : RW w2 w1.heap.size v2 ls := by rw [HLS.out]; exact hrw
  obtain ⟨A2, c2, rfl⟩ := hrw'.form
  have HRW := Aside0.mk hrw'
  have HB2 := Aside0.mk hb2
  have HCT := Aside0.mk (rcut_good w2 x u T (allB ls).length (HR1.out.below hb2) HO2.out)
  have HCE : Aside0 (u.cut ((allB ls).length : Int) = ({ u with bs := u.bs.take (allB ls).length, forced := min u.forced (allB ls).length }, 0)) := ⟨by unfold TS.cut; have := HO2.out; rw [if_neg (by omega)]; simp⟩
  rw [HCE.out] at HCT
  dsimp only at HCT
  obtain ⟨m, hm⟩ : ∃ m, m = (allB ls).length := ⟨_, rfl⟩
  rw [← hm] at HCT ⊢ HO1
  clear hrw hrw' hb2 HRD hm HCE
  go_wp2_with fail
  refine HCT.out.mono ?_
  rintro e w3 ⟨rfl, hr3, hk3⟩
  have HK3 := Aside0.mk hk3
  have HFC := Aside0.mk (rforce_calls w3 x _ _ hr3)
  rw [HO1.out] at HFC
  clear hr3 hk3 HCT
  go_wp2_with fail
  refine HFC.out.mono ?_
  rintro e w4 ⟨rfl, hr4, hk4⟩
  have HE := Aside0.mk (ropen_close HTT.out HBS.out HB1.out HB2.out HRW.out (by have := HLL.out; omega) hr4 HK3.out hk4 (fun A n c e => by injection e with _ e _; exact e.symm))
  have HS4 : Aside0 (w.heap.size ≤ w4.heap.size) := ⟨Nat.le_trans HB1.out.size (Nat.le_trans HB2.out.size (Nat.le_trans HK3.out.size hk4.size))⟩
  clear hr4 hk4 HFC
  go_wp2_with fail
  go_ret2
  obtain ⟨e1, ⟨A, c, e2, e3⟩, e4⟩ := HE.out
  injection e2 with e5 _ e6
  subst e5
  unfold RetOR
  rw [← HLS.out]
  exact ⟨_, _, _, rfl, e1, e3, HS4.out, e4⟩
end Go.Proofs.Ytcnohnieoecpdaa.Oct
