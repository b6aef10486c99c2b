import Derived.Test.YtcicehldhelmbaaTapeQ
import Derived.Test.YtcicehldhelmbaaTapeM
namespace Go.Proofs.Ytcicehldhelmbaa.Oct
open Go.RowKit Go.Proofs.YtcicehldhelmbaaW.PrintWords Go.Proofs.Ytcicehldhelmbaa.M
set_option linter.unusedVariables false
set_option linter.unusedSimpArgs false
/-- behind the box that a call makes first -/
theorem ret_boxed {w w0 w2 : World} {q : Nat} {F : Nat → Prop} {t : TS} {n : Int} {e : Ending} (hb : Below w.heap.size w w0) (hr : RetR w0 q F t n e w2) : RetR w q F t n e w2 := by
  obtain ⟨rfl, ht, hk⟩ := hr
  exact ⟨rfl, ht.mono (fun k h _ => h.elim .inl (fun h => .inr (Nat.le_trans hb.size h))), (Kept.of_below F hb).trans hk (fun k _ h => h)⟩
set_option maxHeartbeats 1000000 in
theorem model_0 (w : World) (q : Nat) (t : TS) (F : Nat → Prop) (kd n : Int) (b : List Int) (B : Option Addr) (c : Nat) (h : RefAt w q t F) (hr : Kd.C (Kd.int .u8) w B b.length b) (ho : OpS.ok (kd, n, b)) (hlen : b.length ≤ 140737488355328) (hk : kd = 0) :
    Calls Try.prog 13 #[.pointer (some ⟨q, 0, none⟩), .agg #[.int .i64 kd, .int .i64 n, .slice B b.length c]] w (RetR w q F (callT t (kd, n, b)).1 (callT t (kd, n, b)).2) := by
  have HT := Aside0.mk h
  have HR := Aside0.mk hr
  have HOK := Aside0.mk ho
  clear h hr ho
  have HV : Aside0 (callT t (kd, n, b) = t.append b) := ⟨by subst hk; rfl⟩
  have b0 : (kd == 0) = true := beq_iff_eq.2 hk
  clear hk
  go_enter Try.func13, Try.ntmps13
  go_wp2_with fail
  obtain ⟨w0, hw0⟩ : ∃ w0, w0 = w.alloc (.cells #[.int .i64 kd, .int .i64 n, .slice B b.length c] 32) := ⟨_, rfl⟩
  have hb0 : Below w.heap.size w w0 := by rw [hw0]; exact below_alloc (Below.refl _ _) _
  have hh0 : w0.heap[w.heap.size]? = some (.cells #[.int .i64 kd, .int .i64 n, .slice B b.length c] 32 (0, 0)) := by rw [hw0]; exact heap_alloc_new w _
  rw [← hw0]
  have HB0 := Aside0.mk hb0
  have HH0 := Aside0.mk hh0
  clear hw0 hb0 hh0
  refine (rappend_calls _ q t _ B c b (HT.out.below HB0.out) (Kd.C_below HR.out HB0.out) HOK.out.2.2 hlen).mono ?_
  intro e w2 hret
  have HM := Aside0.mk (ret_boxed HB0.out hret)
  obtain ⟨rfl, _, _⟩ := hret
  go_wp2_with fail
  go_ret
  rw [HV.out]
  exact HM.out
set_option maxHeartbeats 1000000 in
theorem model_1 (w : World) (q : Nat) (t : TS) (F : Nat → Prop) (kd n : Int) (b : List Int) (B : Option Addr) (c : Nat) (h : RefAt w q t F) (hr : Kd.C (Kd.int .u8) w B b.length b) (ho : OpS.ok (kd, n, b)) (hlen : b.length ≤ 140737488355328) (hk : kd = 1) :
    Calls Try.prog 13 #[.pointer (some ⟨q, 0, none⟩), .agg #[.int .i64 kd, .int .i64 n, .slice B b.length c]] w (RetR w q F (callT t (kd, n, b)).1 (callT t (kd, n, b)).2) := by
  have HT := Aside0.mk h
  have HR := Aside0.mk hr
  have HOK := Aside0.mk ho
  clear h hr ho
  have HV : Aside0 (callT t (kd, n, b) = (t.force, 0)) := ⟨by subst hk; rfl⟩
  have b0 : (kd == 0) = false := beq_eq_false_iff_ne.2 (by omega)
  have b1 : (kd == 1) = true := beq_iff_eq.2 hk
  clear hk
  go_enter Try.func13, Try.ntmps13
  go_wp2_with fail
  obtain ⟨w0, hw0⟩ : ∃ w0, w0 = w.alloc (.cells #[.int .i64 kd, .int .i64 n, .slice B b.length c] 32) := ⟨_, rfl⟩
  have hb0 : Below w.heap.size w w0 := by rw [hw0]; exact below_alloc (Below.refl _ _) _
  have hh0 : w0.heap[w.heap.size]? = some (.cells #[.int .i64 kd, .int .i64 n, .slice B b.length c] 32 (0, 0)) := by rw [hw0]; exact heap_alloc_new w _
  rw [← hw0]
  have HB0 := Aside0.mk hb0
  have HH0 := Aside0.mk hh0
  clear hw0 hb0 hh0
  refine (rforce_calls _ q t _ (HT.out.below HB0.out)).mono ?_
  intro e w2 hret
  have HM := Aside0.mk (ret_boxed HB0.out hret)
  obtain ⟨rfl, _, _⟩ := hret
  go_wp2_with fail
  go_ret
  rw [HV.out]
  exact HM.out
set_option maxHeartbeats 1000000 in
theorem model_2 (w : World) (q : Nat) (t : TS) (F : Nat → Prop) (kd n : Int) (b : List Int) (B : Option Addr) (c : Nat) (h : RefAt w q t F) (hr : Kd.C (Kd.int .u8) w B b.length b) (ho : OpS.ok (kd, n, b)) (hlen : b.length ≤ 140737488355328) (hk : kd = 2) :
    Calls Try.prog 13 #[.pointer (some ⟨q, 0, none⟩), .agg #[.int .i64 kd, .int .i64 n, .slice B b.length c]] w (RetR w q F (callT t (kd, n, b)).1 (callT t (kd, n, b)).2) := by
  have HT := Aside0.mk h
  have HR := Aside0.mk hr
  have HOK := Aside0.mk ho
  clear h hr ho
  have HV : Aside0 (callT t (kd, n, b) = (t.crash n, 0)) := ⟨by subst hk; rfl⟩
  have b0 : (kd == 0) = false := beq_eq_false_iff_ne.2 (by omega)
  have b1 : (kd == 1) = false := beq_eq_false_iff_ne.2 (by omega)
  have b2 : (kd == 2) = true := beq_iff_eq.2 hk
  clear hk
  go_enter Try.func13, Try.ntmps13
  go_wp2_with fail
  obtain ⟨w0, hw0⟩ : ∃ w0, w0 = w.alloc (.cells #[.int .i64 kd, .int .i64 n, .slice B b.length c] 32) := ⟨_, rfl⟩
  have hb0 : Below w.heap.size w w0 := by rw [hw0]; exact below_alloc (Below.refl _ _) _
  have hh0 : w0.heap[w.heap.size]? = some (.cells #[.int .i64 kd, .int .i64 n, .slice B b.length c] 32 (0, 0)) := by rw [hw0]; exact heap_alloc_new w _
  rw [← hw0]
  have HB0 := Aside0.mk hb0
  have HH0 := Aside0.mk hh0
  clear hw0 hb0 hh0
  refine (rcrash_calls _ q t _ n (HT.out.below HB0.out)).mono ?_
  intro e w2 hret
  have HM := Aside0.mk (ret_boxed HB0.out hret)
  obtain ⟨rfl, _, _⟩ := hret
  go_wp2_with fail
  go_ret
  rw [HV.out]
  exact HM.out
set_option maxHeartbeats 1000000 in
theorem model_3 (w : World) (q : Nat) (t : TS) (F : Nat → Prop) (kd n : Int) (b : List Int) (B : Option Addr) (c : Nat) (h : RefAt w q t F) (hr : Kd.C (Kd.int .u8) w B b.length b) (ho : OpS.ok (kd, n, b)) (hlen : b.length ≤ 140737488355328) (hk : kd = 3) :
    Calls Try.prog 13 #[.pointer (some ⟨q, 0, none⟩), .agg #[.int .i64 kd, .int .i64 n, .slice B b.length c]] w (RetR w q F (callT t (kd, n, b)).1 (callT t (kd, n, b)).2) := by
  have HT := Aside0.mk h
  have HR := Aside0.mk hr
  have HOK := Aside0.mk ho
  clear h hr ho
  have HV : Aside0 (callT t (kd, n, b) = t.cut n) := ⟨by subst hk; rfl⟩
  have b0 : (kd == 0) = false := beq_eq_false_iff_ne.2 (by omega)
  have b1 : (kd == 1) = false := beq_eq_false_iff_ne.2 (by omega)
  have b2 : (kd == 2) = false := beq_eq_false_iff_ne.2 (by omega)
  have b3 : (kd == 3) = true := beq_iff_eq.2 hk
  clear hk
  go_enter Try.func13, Try.ntmps13
  go_wp2_with fail
  obtain ⟨w0, hw0⟩ : ∃ w0, w0 = w.alloc (.cells #[.int .i64 kd, .int .i64 n, .slice B b.length c] 32) := ⟨_, rfl⟩
  have hb0 : Below w.heap.size w w0 := by rw [hw0]; exact below_alloc (Below.refl _ _) _
  have hh0 : w0.heap[w.heap.size]? = some (.cells #[.int .i64 kd, .int .i64 n, .slice B b.length c] 32 (0, 0)) := by rw [hw0]; exact heap_alloc_new w _
  rw [← hw0]
  have HB0 := Aside0.mk hb0
  have HH0 := Aside0.mk hh0
  clear hw0 hb0 hh0
  refine (rcut_calls _ q t _ n (HT.out.below HB0.out)).mono ?_
  intro e w2 hret
  have HM := Aside0.mk (ret_boxed HB0.out hret)
  obtain ⟨rfl, _, _⟩ := hret
  go_wp2_with fail
  go_ret
  rw [HV.out]
  exact HM.out
set_option maxHeartbeats 1000000 in
theorem model_4 (w : World) (q : Nat) (t : TS) (F : Nat → Prop) (kd n : Int) (b : List Int) (B : Option Addr) (c : Nat) (h : RefAt w q t F) (hr : Kd.C (Kd.int .u8) w B b.length b) (ho : OpS.ok (kd, n, b)) (hlen : b.length ≤ 140737488355328) (hk : kd = 4) :
    Calls Try.prog 13 #[.pointer (some ⟨q, 0, none⟩), .agg #[.int .i64 kd, .int .i64 n, .slice B b.length c]] w (RetR w q F (callT t (kd, n, b)).1 (callT t (kd, n, b)).2) := by
  have HT := Aside0.mk h
  have HR := Aside0.mk hr
  have HOK := Aside0.mk ho
  clear h hr ho
  have HV : Aside0 (callT t (kd, n, b) = t.swap b) := ⟨by subst hk; rfl⟩
  have b0 : (kd == 0) = false := beq_eq_false_iff_ne.2 (by omega)
  have b1 : (kd == 1) = false := beq_eq_false_iff_ne.2 (by omega)
  have b2 : (kd == 2) = false := beq_eq_false_iff_ne.2 (by omega)
  have b3 : (kd == 3) = false := beq_eq_false_iff_ne.2 (by omega)
  have b4 : (kd == 4) = true := beq_iff_eq.2 hk
  clear hk
  go_enter Try.func13, Try.ntmps13
  go_wp2_with fail
  obtain ⟨w0, hw0⟩ : ∃ w0, w0 = w.alloc (.cells #[.int .i64 kd, .int .i64 n, .slice B b.length c] 32) := ⟨_, rfl⟩
  have hb0 : Below w.heap.size w w0 := by rw [hw0]; exact below_alloc (Below.refl _ _) _
  have hh0 : w0.heap[w.heap.size]? = some (.cells #[.int .i64 kd, .int .i64 n, .slice B b.length c] 32 (0, 0)) := by rw [hw0]; exact heap_alloc_new w _
  rw [← hw0]
  have HB0 := Aside0.mk hb0
  have HH0 := Aside0.mk hh0
  clear hw0 hb0 hh0
  refine (rswap_calls _ q t _ B c b (HT.out.below HB0.out) (Kd.C_below HR.out HB0.out) HOK.out.2.2 hlen).mono ?_
  intro e w2 hret
  have HM := Aside0.mk (ret_boxed HB0.out hret)
  obtain ⟨rfl, _, _⟩ := hret
  go_wp2_with fail
  go_ret
  rw [HV.out]
  exact HM.out
set_option maxHeartbeats 1000000 in
theorem model_5 (w : World) (q : Nat) (t : TS) (F : Nat → Prop) (kd n : Int) (b : List Int) (B : Option Addr) (c : Nat) (h : RefAt w q t F) (hr : Kd.C (Kd.int .u8) w B b.length b) (ho : OpS.ok (kd, n, b)) (hlen : b.length ≤ 140737488355328) (h0 : kd ≠ 0) (h1 : kd ≠ 1) (h2 : kd ≠ 2) (h3 : kd ≠ 3) (h4 : kd ≠ 4) :
    Calls Try.prog 13 #[.pointer (some ⟨q, 0, none⟩), .agg #[.int .i64 kd, .int .i64 n, .slice B b.length c]] w (RetR w q F (callT t (kd, n, b)).1 (callT t (kd, n, b)).2) := by
  have HT := Aside0.mk h
  have HR := Aside0.mk hr
  have HOK := Aside0.mk ho
  clear h hr ho
  have HV : Aside0 (callT t (kd, n, b) = (t, 0)) := ⟨by unfold callT; rw [if_neg h0, if_neg h1, if_neg h2, if_neg h3, if_neg h4]⟩
  have b0 : (kd == 0) = false := beq_eq_false_iff_ne.2 (by omega)
  have b1 : (kd == 1) = false := beq_eq_false_iff_ne.2 (by omega)
  have b2 : (kd == 2) = false := beq_eq_false_iff_ne.2 (by omega)
  have b3 : (kd == 3) = false := beq_eq_false_iff_ne.2 (by omega)
  have b4 : (kd == 4) = false := beq_eq_false_iff_ne.2 (by omega)
  clear h0 h1 h2 h3 h4
  go_enter Try.func13, Try.ntmps13
  go_wp2_with fail
  go_ret
  have HB0 : Aside0 (Below w.heap.size w (w.alloc (.cells #[.int .i64 kd, .int .i64 n, .slice B b.length c] 32))) := ⟨below_alloc (Below.refl _ _) _⟩
  rw [HV.out]
  exact ⟨rfl, (HT.out.below HB0.out).mono (fun k hk _ => .inl hk), Kept.of_below F HB0.out⟩
theorem model_calls (w : World) (q : Nat) (t : TS) (F : Nat → Prop) (kd n : Int) (b : List Int) (B : Option Addr) (c : Nat) (h : RefAt w q t F) (hr : Kd.C (Kd.int .u8) w B b.length b) (ho : OpS.ok (kd, n, b)) (hlen : b.length ≤ 140737488355328) :
    Calls Try.prog 13 #[.pointer (some ⟨q, 0, none⟩), .agg #[.int .i64 kd, .int .i64 n, .slice B b.length c]] w (RetR w q F (callT t (kd, n, b)).1 (callT t (kd, n, b)).2) := by
  by_cases h0 : kd = 0
  · exact model_0 w q t F kd n b B c h hr ho hlen h0
  by_cases h1 : kd = 1
  · exact model_1 w q t F kd n b B c h hr ho hlen h1
  by_cases h2 : kd = 2
  · exact model_2 w q t F kd n b B c h hr ho hlen h2
  by_cases h3 : kd = 3
  · exact model_3 w q t F kd n b B c h hr ho hlen h3
  by_cases h4 : kd = 4
  · exact model_4 w q t F kd n b B c h hr ho hlen h4
  exact model_5 w q t F kd n b B c h hr ho hlen h0 h1 h2 h3 h4
/-- a tape and the document's tape, above a mark and below another; they share nothing -/
def TRB (base top : Nat) (W : World) (p : Nat) (t : TS) (q : Nat) (u : TS) : Prop :=
  ∃ F G : Nat → Prop, TapeAt W p t F ∧ RefAt W q u G ∧ (∀ k, F k → ¬ G k) ∧ (∀ k, F k → base ≤ k ∧ k < top) ∧ (∀ k, G k → base ≤ k ∧ k < top) ∧ base ≤ top ∧ top ≤ W.heap.size
theorem TRB.below {base top : Nat} {W W' : World} {p q : Nat} {t u : TS} (h : TRB base top W p t q u) (hb : Below top W W') : TRB base top W' p t q u := by
  obtain ⟨F, G, h1, h2, h3, h4, h5, h6, h7⟩ := h
  exact ⟨F, G, h1.step hb.size (fun k hk _ => hb.block k (h4 k hk).2), h2.step (fun k hk _ => hb.block k (h5 k hk).2), h3, h4, h5, h6, Nat.le_trans h7 hb.size⟩
theorem TRB.up {base top top' : Nat} {W : World} {p q : Nat} {t u : TS} (h : TRB base top W p t q u) (h1 : top ≤ top') (h2 : top' ≤ W.heap.size) : TRB base top' W p t q u := by
  obtain ⟨F, G, a1, a2, a3, a4, a5, a6, a7⟩ := h
  exact ⟨F, G, a1, a2, a3, fun k hk => ⟨(a4 k hk).1, Nat.lt_of_lt_of_le (a4 k hk).2 h1⟩, fun k hk => ⟨(a5 k hk).1, Nat.lt_of_lt_of_le (a5 k hk).2 h1⟩, Nat.le_trans a6 h1, h2⟩
theorem TRB.fst {base top : Nat} {W : World} {p q : Nat} {t u : TS} (h : TRB base top W p t q u) : TapeAt W p t (fun k => base ≤ k) := by
  obtain ⟨F, G, a1, a2, a3, a4, a5, a6, a7⟩ := h
  exact a1.mono (fun k hk _ => (a4 k hk).1)
theorem TRB.snd {base top : Nat} {W : World} {p q : Nat} {t u : TS} (h : TRB base top W p t q u) : RefAt W q u (fun k => base ≤ k) := by
  obtain ⟨F, G, a1, a2, a3, a4, a5, a6, a7⟩ := h
  exact a2.mono (fun k hk _ => (a5 k hk).1)
theorem Kept.below {W W' : World} {F : Nat → Prop} {base : Nat} (h : Kept W F W') (hF : ∀ k, F k → base ≤ k) (hb : base ≤ W.heap.size) : Below base W W' := by
  have h0 := (Below.refl base W)
  refine ⟨h.os, h.tape, h.output, h.size, fun k hk => h.block k (by omega) (fun hf => by have := hF k hf; omega)⟩
theorem TRB.tape {base : Nat} {W : World} {p q : Nat} {t t' u : TS} {n : Int} {f : Nat} {args : Array Value} (h : TRB base W.heap.size W p t q u)
    (hc : ∀ F, TapeAt W p t F → Calls Try.prog f args W (RetT W p F t' n)) : Calls Try.prog f args W (fun e W' => e = .returned (.int .i64 n) ∧ TRB base W'.heap.size W' p t' q u ∧ Below base W W') := by
  obtain ⟨F, G, a1, a2, a3, a4, a5, a6, a7⟩ := h
  refine (hc F a1).mono ?_
  rintro e W' ⟨rfl, ht, hg⟩
  have hp := a1.is.2.1
  have hK : Kept W F W' := Kept.of_grown hg hp
  refine ⟨rfl, ⟨fun k => New W F k ∧ k < W'.heap.size, G, ht.mono (fun k hk hlt => ⟨hk, hlt⟩), a2.step (fun k hk hlt => hK.block k hlt (fun hf => a3 k hf hk)), ?_, ?_, ?_, Nat.le_trans a6 hg.size, Nat.le_refl _⟩, hK.below (fun k hk => (a4 k hk).1) a6⟩
  · rintro k ⟨hk | hk, _⟩ hG
    · exact a3 k hk hG
    · have := (a5 k hG).2
      have hk' : W.heap.size ≤ k := hk
      omega
  · rintro k ⟨hk | hk, hlt⟩
    · exact ⟨(a4 k hk).1, hlt⟩
    · exact ⟨Nat.le_trans a6 hk, hlt⟩
  · exact fun k hk => ⟨(a5 k hk).1, Nat.lt_of_lt_of_le (a5 k hk).2 hg.size⟩
theorem TRB.ref {base : Nat} {W : World} {p q : Nat} {t u u' : TS} {n : Int} {f : Nat} {args : Array Value} (h : TRB base W.heap.size W p t q u)
    (hc : ∀ F, RefAt W q u F → Calls Try.prog f args W (RetR W q F u' n)) : Calls Try.prog f args W (fun e W' => e = .returned (.int .i64 n) ∧ TRB base W'.heap.size W' p t q u' ∧ Below base W W') := by
  obtain ⟨F, G, a1, a2, a3, a4, a5, a6, a7⟩ := h
  refine (hc G a2).mono ?_
  rintro e W' ⟨rfl, ht, hK⟩
  refine ⟨rfl, ⟨F, fun k => New W G k ∧ k < W'.heap.size, a1.step hK.size (fun k hk hlt => hK.block k hlt (fun hf => a3 k hk hf)), ht.mono (fun k hk hlt => ⟨hk, hlt⟩), ?_, ?_, ?_, Nat.le_trans a6 hK.size, Nat.le_refl _⟩, hK.below (fun k hk => (a5 k hk).1) a6⟩
  · rintro k hF ⟨hk | hk, _⟩
    · exact a3 k hF hk
    · have := (a4 k hF).2
      have hk' : W.heap.size ≤ k := hk
      omega
  · exact fun k hk => ⟨(a4 k hk).1, Nat.lt_of_lt_of_le (a4 k hk).2 hK.size⟩
  · rintro k ⟨hk | hk, hlt⟩
    · exact ⟨(a5 k hk).1, hlt⟩
    · exact ⟨Nat.le_trans a6 hk, hlt⟩
end Go.Proofs.Ytcicehldhelmbaa.Oct
