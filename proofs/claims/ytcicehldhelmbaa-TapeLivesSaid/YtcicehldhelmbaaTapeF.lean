import Derived.Test.YtcicehldhelmbaaTapeE
import Derived.Test.YtcicehldhelmbaaRead
import Derived.Test.YtcicehldhelmbaaFCopy
namespace Go.Proofs.Ytcicehldhelmbaa.Oct
open Go.RowKit Go.Proofs.YtcicehldhelmbaaW.PrintWords Go.Proofs.Ytcicehldhelmbaa.M
set_option linter.unusedVariables false
set_option linter.unusedSimpArgs false
/-- a call: its kind, its number, its bytes -/
abbrev OpS := Int × Int × List Int
abbrev opK : Kd OpS := Kd.pair (Kd.int .i64) (Kd.pair (Kd.int .i64) (Kd.slice 5 (Kd.int .u8)))
def OpS.ok (o : OpS) : Prop := (-9223372036854775808 ≤ o.1 ∧ o.1 ≤ 9223372036854775807) ∧ (-9223372036854775808 ≤ o.2.1 ∧ o.2.1 ≤ 9223372036854775807) ∧ Bytes o.2.2
/-- a field's address behind an element's -/
theorem add_lit_add (a : Addr) (i j : Nat) : a.add (i + (j + 1)) = ⟨(a.add i).block, (a.add i).off + (j + 1), none⟩ := by
  rw [← Rd.addr_add_add]
  exact if_neg (Nat.succ_ne_zero j)
/-- an element of a row of calls: its three cells, its bytes -/
theorem op_at {W : World} {A : Option Addr} {n : Nat} {l : List OpS} (h : opK.C W A n l) {k : Nat} (hk : k < n) (z : OpS) :
    ∃ ad B c, A = some ad ∧ W.cell? (ad.add (k * 3)) = some (.int .i64 (l.getD k z).1) ∧ W.cell? ⟨(ad.add (k * 3)).block, (ad.add (k * 3)).off + 1, none⟩ = some (.int .i64 (l.getD k z).2.1) ∧ W.cell? ⟨(ad.add (k * 3)).block, (ad.add (k * 3)).off + 2, none⟩ = some (.slice B (l.getD k z).2.2.length c) ∧ (l.getD k z).2.2.length ≤ c ∧ Kd.C (Kd.int .u8) W B (l.getD k z).2.2.length (l.getD k z).2.2 := by
  obtain ⟨ad, c, e, hs, hK, hcell⟩ := Kd.C_get h z (k : Int) (by omega) (by omega)
  simp only [Int.toNat_natCast] at hK hcell
  obtain ⟨c0, c1, rfl, h0, h1⟩ := hK
  obtain ⟨c2, c3, rfl, h2, B, cc, rfl, hl, hr⟩ := h1
  have h0' : c0 = [.int .i64 (l.getD k z).1] := h0
  have h2' : c2 = [.int .i64 (l.getD k z).2.1] := h2
  subst h0' h2'
  exact ⟨ad, B, cc, e, hcell 0 _ rfl, (by rw [← add_lit_add]; exact hcell 1 _ rfl), (by rw [← add_lit_add]; exact hcell 2 _ rfl), hl, hr⟩
/-- what a call does to the tape, and its error -/
def callT (t : TS) (o : OpS) : TS × Int :=
  if o.1 = 0 then t.append o.2.2 else if o.1 = 1 then (t.force, 0) else if o.1 = 2 then (t.crash o.2.1, 0) else if o.1 = 3 then t.cut o.2.1 else if o.1 = 4 then t.swap o.2.2 else (t, 0)
/-- behind a call of the tape's, ahead of the loop that turns the bytes that were handed in -/
structure Mid (w : World) (p : Nat) (F : Nat → Prop) (t : TS) (b : List Int) (v : Value) (W : World) : Prop where
  own : ∃ base, w.heap.size ≤ base ∧ OB W base v b
  tape : ∃ G, TapeAt W p t G ∧ (∀ k, G k → New w F k) ∧ ∀ k, G k → some k ≠ v.ownBlock
  grown : w.grownBy W (some p)
theorem mid_of_ret {w w0 w1 w2 : World} {p : Nat} {F : Nat → Prop} {t t' : TS} {n : Int} {e : Ending} {b : List Int} {v : Value} (hb0 : Below w.heap.size w w0) (ho : OB w1 w0.heap.size v b) (hb1 : Below w0.heap.size w0 w1) (ht : TapeAt w1 p t (fun k => F k ∧ k < w.heap.size))
    (hr : RetT w1 p (fun k => F k ∧ k < w.heap.size) t' n e w2) (hpl : p < w.heap.size) : Mid w p F t' b v w2 := by
  obtain ⟨_, ht2, hg⟩ := hr
  have hs0 : w.heap.size ≤ w0.heap.size := hb0.size
  have hs1 : w0.heap.size ≤ w1.heap.size := hb1.size
  refine ⟨⟨w0.heap.size, hs0, own_move ho (fun k hk => ?_)⟩, ⟨_, ht2, fun k hk => ?_, fun k hk e => ?_⟩, grown_below (hb0.trans (hb1.mono hs0)) hg⟩
  · have h1 := own_base ho k hk
    exact hg.block k (own_lt ho k hk) (fun e => by injection e with e; omega)
  · rcases hk with hk | hk
    · exact .inl hk.1
    · exact .inr (by have : w1.heap.size ≤ k := hk; omega)
  · have h1 := own_base ho k e.symm
    have h2 := own_lt ho k e.symm
    rcases hk with hk | hk
    · have := hk.2; omega
    · have : w1.heap.size ≤ k := hk
      omega
theorem mid_same {w w0 w1 : World} {p : Nat} {F : Nat → Prop} {t : TS} {b : List Int} {v : Value} (hb0 : Below w.heap.size w w0) (ho : OB w1 w0.heap.size v b) (hb1 : Below w0.heap.size w0 w1) (ht : TapeAt w1 p t (fun k => F k ∧ k < w.heap.size)) : Mid w p F t b v w1 := by
  have hs0 : w.heap.size ≤ w0.heap.size := hb0.size
  refine ⟨⟨w0.heap.size, hs0, ho⟩, ⟨_, ht, fun k hk => .inl hk.1, fun k hk e => ?_⟩, grown_of_below (hb0.trans (hb1.mono hs0)) _⟩
  have h1 := own_base ho k e.symm
  have := hk.2
  omega
/-- in the loop that turns the bytes that were handed in -/
structure Turn (w : World) (p : Nat) (F : Nat → Prop) (t : TS) (m : Nat) (v : Value) (W : World) : Prop where
  own : ∃ zs : List Int, zs.length = m ∧ Bytes zs ∧ OB W w.heap.size v zs
  tape : ∃ G, TapeAt W p t G ∧ (∀ k, G k → New w F k) ∧ ∀ k, G k → some k ≠ v.ownBlock
  grown : w.grownBy W (some p)
theorem Mid.turn {w W : World} {p : Nat} {F : Nat → Prop} {t : TS} {b : List Int} {v : Value} (h : Mid w p F t b v W) (hb : Bytes b) : Turn w p F t b.length v W := by
  obtain ⟨⟨base, h0, ho⟩, ht, hg⟩ := h
  exact ⟨⟨b, rfl, hb, ho.lower h0⟩, ht, hg⟩
theorem Turn.at {w W : World} {p : Nat} {F : Nat → Prop} {t : TS} {m : Nat} {A : Option Addr} {c : Nat} (h : Turn w p F t m (.slice A m c) W) {k : Nat} (hk : k < m) :
    ∃ g z, A = some ⟨g, 0, none⟩ ∧ Byte z ∧ W.cell? ⟨g, k, none⟩ = some (.int .u8 z) ∧ W.frozen? ⟨g, k, none⟩ = false ∧ ∀ x, Byte x → Turn w p F t m (.slice A m c) (W.setCell ⟨g, k, none⟩ (.int .u8 x)) := by
  obtain ⟨⟨zs, hl, hz, ho⟩, ⟨G, ht, hG, hG2⟩, hg⟩ := h
  obtain ⟨g, cap, hv, hg1, hg2⟩ := ho.form (by omega)
  injection hv with hA _ hc
  subst hA hc
  have ho' : W.ownsRow w.heap.size 5 1 (.slice (some ⟨g, 0, none⟩) m c) m (nums .u8 zs) := by unfold OB at ho; rwa [hl] at ho
  obtain ⟨hc, hf⟩ := own_at ho' (k : Int) (by omega) (by omega)
  rw [Int.toNat_natCast] at hc hf
  refine ⟨g, _, rfl, hz.getD k, hc, hf, fun x hx => ?_⟩
  have hp := own_store ho' (k : Int) x
  rw [Int.toNat_natCast] at hp
  refine ⟨⟨zs.set k x, (by simp [hl]), hz.set hx k, ?_⟩, ⟨G, ht.grown hp.2 (fun j hj e => hG2 j hj e), hG, hG2⟩, ?_⟩
  · have := hp.1
    unfold OB
    rw [List.length_set, hl]
    exact this
  · have h2 := hp.2
    refine ⟨h2.os.trans hg.os, h2.tape.trans hg.tape, h2.output.trans hg.output, Nat.le_trans hg.size h2.size, fun j hj hne => ?_⟩
    rw [h2.block j (Nat.lt_of_lt_of_le hj hg.size) (fun e => by injection e with e; omega)]
    exact hg.block j hj hne
theorem Turn.ret {w W : World} {p : Nat} {F : Nat → Prop} {t : TS} {m : Nat} {v : Value} (h : Turn w p F t m v W) (n : Int) : RetT w p F t n (.returned (.int .i64 n)) W := by
  obtain ⟨_, ⟨G, ht, hG, _⟩, hg⟩ := h
  exact ⟨rfl, ht.mono (fun k hk _ => hG k hk), hg⟩
set_option maxHeartbeats 2000000 in
theorem call_0 (w : World) (p : Nat) (t : TS) (F : Nat → Prop) (kd n : Int) (b : List Int) (B : Option Addr) (c : Nat) (h : TapeAt w p t F) (hr : Kd.C (Kd.int .u8) w B b.length b) (ho : OpS.ok (kd, n, b)) (hlen : b.length ≤ 140737488355328) (hk : kd = 0) :
    Calls Try.prog 12 #[.pointer (some ⟨p, 0, none⟩), .agg #[.int .i64 kd, .int .i64 n, .slice B b.length c]] w (RetT w p F (callT t (kd, n, b)).1 (callT t (kd, n, b)).2) := by
  have HK := Aside0.mk hk
  clear hk
  have HPL : Aside0 (p < w.heap.size) := ⟨by obtain ⟨_, _, hh, _⟩ := h; exact (Array.getElem?_eq_some_iff.1 hh).1⟩
  have HT := Aside0.mk (h.mono (G := fun k => F k ∧ k < w.heap.size) (fun k hk hlt => ⟨hk, hlt⟩))
  have HR := Aside0.mk hr
  have HOK := Aside0.mk ho
  clear h hr ho
  go_enter Try.func12, Try.ntmps12
  go_wp2_with fail
  obtain ⟨w0, hw0⟩ : ∃ w0, w0 = w.alloc (.cells #[.int .i64 kd, .int .i64 n, .slice B b.length c] 32) := ⟨_, rfl⟩
  have hb0 : Below w.heap.size w w0 := by rw [hw0]; exact below_alloc (Below.refl _ _) _
  have hh0 : w0.heap[w.heap.size]? = some (.cells #[.int .i64 kd, .int .i64 n, .slice B b.length c] 32 (0, 0)) := by rw [hw0]; exact heap_alloc_new w _
  rw [← hw0]
  have HB0 := Aside0.mk hb0
  have HH0 := Aside0.mk hh0
  clear hw0 hb0 hh0
  obtain ⟨c0, c1, c2, f0, f1, f2⟩ := three_cells HH0.out
  go_wp2_with fail
  refine (copy_calls _ B c b (Kd.C_below HR.out HB0.out) hlen).mono ?_
  rintro e w1 ⟨v, rfl, ho1, hb1⟩
  have HO1 := Aside0.mk ho1
  have HB1 := Aside0.mk hb1
  have HT1 := Aside0.mk ((HT.out.below HB0.out).below (hb1.mono (Nat.le_refl _)))
  obtain ⟨A1, c3, rfl, hr1⟩ := ho1.reads
  have HR1 := Aside0.mk hr1
  have HNE : Aside0 (∀ ad, A1 = some ad → ad.block ≠ p) := ⟨fun ad e hp => by
    have := own_base HO1.out ad.block (by rw [e]; rfl)
    have := HPL.out
    have := HB0.out.size
    omega⟩
  obtain ⟨d0, d1, d2, _, _, _⟩ := three_cells (blk_keep HH0.out hb1)
  clear ho1 hb1 hr1 c0 c1 c2 f0 f1 f2
  have hk := HK.out
  have HV : Aside0 (callT t (kd, n, b) = t.append b) := ⟨by subst hk; rfl⟩
  have b0 : (kd == 0) = true := beq_iff_eq.2 hk
  clear hk
  go_wp2_with fail
  refine (append_calls _ p t _ A1 c3 b HT1.out HR1.out HOK.out.2.2).mono ?_
  intro e w2 hret
  have hmid := mid_of_ret HB0.out HO1.out HB1.out HT1.out hret HPL.out
  obtain ⟨rfl, _, _⟩ := hret
  have HMID : Aside0 (Turn w p F (callT t (kd, n, b)).1 b.length (.slice A1 b.length c3) w2) := ⟨by rw [HV.out]; exact hmid.turn HOK.out.2.2⟩
  clear hmid
  go_wp2_with fail
  go_loopw [7] (fun v7 wr => ∃ (i : Nat), i ≤ b.length ∧ v7 = .int .i64 i ∧ Aside0 (Turn w p F (callT t (kd, n, b)).1 b.length (.slice A1 b.length c3) wr)) (fun v _ => b.length - (intOf v).toNat)
  case atStart => exact ⟨0, by omega, rfl, HMID⟩
  case round =>
    obtain ⟨i, hi, rfl, HT5⟩ := hrel
    by_cases hlt : i < b.length
    · obtain ⟨g, z, rfl, hzb, hc, hf, hset⟩ := HT5.out.at hlt
      have HX := Aside0.mk hset
      clear hset
      obtain ⟨hz0, hz1⟩ := hzb
      have hxor := u8_xor hz0 hz1 (show (0 : Int) ≤ 255 by omega) (show (255 : Int) < 256 by omega)
      have hxb : Byte ((z.toNat ^^^ (255 : Int).toNat : Nat) : Int) := by have := xor_byte (a := z.toNat) (b := (255 : Int).toNat) (by omega) (by omega); unfold Byte; omega
      obtain ⟨x, hx⟩ : ∃ x : Int, x = ((z.toNat ^^^ (255 : Int).toNat : Nat) : Int) := ⟨_, rfl⟩
      rw [← hx] at hxor hxb
      have HX2 := Aside0.mk (HX.out x hxb)
      clear hx hxb
      go_wp2_with fail
      refine ⟨⟨i + 1, by omega, by go_num, HX2⟩, by simp [intOf]; omega⟩
    · obtain rfl : i = b.length := by omega
      go_wp2_with fail
      go_ret
      have hz := HT5.out.ret (t.append b).2
      have hv : (callT t (kd, n, b)).2 = (t.append b).2 := by rw [HV.out]
      rw [hv]
      exact hz
set_option maxHeartbeats 2000000 in
theorem call_1 (w : World) (p : Nat) (t : TS) (F : Nat → Prop) (kd n : Int) (b : List Int) (B : Option Addr) (c : Nat) (h : TapeAt w p t F) (hr : Kd.C (Kd.int .u8) w B b.length b) (ho : OpS.ok (kd, n, b)) (hlen : b.length ≤ 140737488355328) (hk : kd = 1) :
    Calls Try.prog 12 #[.pointer (some ⟨p, 0, none⟩), .agg #[.int .i64 kd, .int .i64 n, .slice B b.length c]] w (RetT w p F (callT t (kd, n, b)).1 (callT t (kd, n, b)).2) := by
  have HK := Aside0.mk hk
  clear hk
  have HPL : Aside0 (p < w.heap.size) := ⟨by obtain ⟨_, _, hh, _⟩ := h; exact (Array.getElem?_eq_some_iff.1 hh).1⟩
  have HT := Aside0.mk (h.mono (G := fun k => F k ∧ k < w.heap.size) (fun k hk hlt => ⟨hk, hlt⟩))
  have HR := Aside0.mk hr
  have HOK := Aside0.mk ho
  clear h hr ho
  go_enter Try.func12, Try.ntmps12
  go_wp2_with fail
  obtain ⟨w0, hw0⟩ : ∃ w0, w0 = w.alloc (.cells #[.int .i64 kd, .int .i64 n, .slice B b.length c] 32) := ⟨_, rfl⟩
  have hb0 : Below w.heap.size w w0 := by rw [hw0]; exact below_alloc (Below.refl _ _) _
  have hh0 : w0.heap[w.heap.size]? = some (.cells #[.int .i64 kd, .int .i64 n, .slice B b.length c] 32 (0, 0)) := by rw [hw0]; exact heap_alloc_new w _
  rw [← hw0]
  have HB0 := Aside0.mk hb0
  have HH0 := Aside0.mk hh0
  clear hw0 hb0 hh0
  obtain ⟨c0, c1, c2, f0, f1, f2⟩ := three_cells HH0.out
  go_wp2_with fail
  refine (copy_calls _ B c b (Kd.C_below HR.out HB0.out) hlen).mono ?_
  rintro e w1 ⟨v, rfl, ho1, hb1⟩
  have HO1 := Aside0.mk ho1
  have HB1 := Aside0.mk hb1
  have HT1 := Aside0.mk ((HT.out.below HB0.out).below (hb1.mono (Nat.le_refl _)))
  obtain ⟨A1, c3, rfl, hr1⟩ := ho1.reads
  have HR1 := Aside0.mk hr1
  have HNE : Aside0 (∀ ad, A1 = some ad → ad.block ≠ p) := ⟨fun ad e hp => by
    have := own_base HO1.out ad.block (by rw [e]; rfl)
    have := HPL.out
    have := HB0.out.size
    omega⟩
  obtain ⟨d0, d1, d2, _, _, _⟩ := three_cells (blk_keep HH0.out hb1)
  clear ho1 hb1 hr1 c0 c1 c2 f0 f1 f2
  have hk := HK.out
  have HV : Aside0 (callT t (kd, n, b) = (t.force, 0)) := ⟨by subst hk; rfl⟩
  have b0 : (kd == 0) = false := beq_eq_false_iff_ne.2 (by omega)
  have b1 : (kd == 1) = true := beq_iff_eq.2 hk
  clear hk
  go_wp2_with fail
  refine (force_calls _ p t _ HT1.out).mono ?_
  intro e w2 hret
  have hmid := mid_of_ret HB0.out HO1.out HB1.out HT1.out hret HPL.out
  obtain ⟨rfl, _, _⟩ := hret
  have HMID : Aside0 (Turn w p F (callT t (kd, n, b)).1 b.length (.slice A1 b.length c3) w2) := ⟨by rw [HV.out]; exact hmid.turn HOK.out.2.2⟩
  clear hmid
  go_wp2_with fail
  go_loopw [7] (fun v7 wr => ∃ (i : Nat), i ≤ b.length ∧ v7 = .int .i64 i ∧ Aside0 (Turn w p F (callT t (kd, n, b)).1 b.length (.slice A1 b.length c3) wr)) (fun v _ => b.length - (intOf v).toNat)
  case atStart => exact ⟨0, by omega, rfl, HMID⟩
  case round =>
    obtain ⟨i, hi, rfl, HT5⟩ := hrel
    by_cases hlt : i < b.length
    · obtain ⟨g, z, rfl, hzb, hc, hf, hset⟩ := HT5.out.at hlt
      have HX := Aside0.mk hset
      clear hset
      obtain ⟨hz0, hz1⟩ := hzb
      have hxor := u8_xor hz0 hz1 (show (0 : Int) ≤ 255 by omega) (show (255 : Int) < 256 by omega)
      have hxb : Byte ((z.toNat ^^^ (255 : Int).toNat : Nat) : Int) := by have := xor_byte (a := z.toNat) (b := (255 : Int).toNat) (by omega) (by omega); unfold Byte; omega
      obtain ⟨x, hx⟩ : ∃ x : Int, x = ((z.toNat ^^^ (255 : Int).toNat : Nat) : Int) := ⟨_, rfl⟩
      rw [← hx] at hxor hxb
      have HX2 := Aside0.mk (HX.out x hxb)
      clear hx hxb
      go_wp2_with fail
      refine ⟨⟨i + 1, by omega, by go_num, HX2⟩, by simp [intOf]; omega⟩
    · obtain rfl : i = b.length := by omega
      go_wp2_with fail
      go_ret
      have hz := HT5.out.ret 0
      have hv : (callT t (kd, n, b)).2 = 0 := by rw [HV.out]
      rw [hv]
      exact hz
set_option maxHeartbeats 2000000 in
theorem call_2 (w : World) (p : Nat) (t : TS) (F : Nat → Prop) (kd n : Int) (b : List Int) (B : Option Addr) (c : Nat) (h : TapeAt w p t F) (hr : Kd.C (Kd.int .u8) w B b.length b) (ho : OpS.ok (kd, n, b)) (hlen : b.length ≤ 140737488355328) (hk : kd = 2) :
    Calls Try.prog 12 #[.pointer (some ⟨p, 0, none⟩), .agg #[.int .i64 kd, .int .i64 n, .slice B b.length c]] w (RetT w p F (callT t (kd, n, b)).1 (callT t (kd, n, b)).2) := by
  have HK := Aside0.mk hk
  clear hk
  have HPL : Aside0 (p < w.heap.size) := ⟨by obtain ⟨_, _, hh, _⟩ := h; exact (Array.getElem?_eq_some_iff.1 hh).1⟩
  have HT := Aside0.mk (h.mono (G := fun k => F k ∧ k < w.heap.size) (fun k hk hlt => ⟨hk, hlt⟩))
  have HR := Aside0.mk hr
  have HOK := Aside0.mk ho
  clear h hr ho
  go_enter Try.func12, Try.ntmps12
  go_wp2_with fail
  obtain ⟨w0, hw0⟩ : ∃ w0, w0 = w.alloc (.cells #[.int .i64 kd, .int .i64 n, .slice B b.length c] 32) := ⟨_, rfl⟩
  have hb0 : Below w.heap.size w w0 := by rw [hw0]; exact below_alloc (Below.refl _ _) _
  have hh0 : w0.heap[w.heap.size]? = some (.cells #[.int .i64 kd, .int .i64 n, .slice B b.length c] 32 (0, 0)) := by rw [hw0]; exact heap_alloc_new w _
  rw [← hw0]
  have HB0 := Aside0.mk hb0
  have HH0 := Aside0.mk hh0
  clear hw0 hb0 hh0
  obtain ⟨c0, c1, c2, f0, f1, f2⟩ := three_cells HH0.out
  go_wp2_with fail
  refine (copy_calls _ B c b (Kd.C_below HR.out HB0.out) hlen).mono ?_
  rintro e w1 ⟨v, rfl, ho1, hb1⟩
  have HO1 := Aside0.mk ho1
  have HB1 := Aside0.mk hb1
  have HT1 := Aside0.mk ((HT.out.below HB0.out).below (hb1.mono (Nat.le_refl _)))
  obtain ⟨A1, c3, rfl, hr1⟩ := ho1.reads
  have HR1 := Aside0.mk hr1
  have HNE : Aside0 (∀ ad, A1 = some ad → ad.block ≠ p) := ⟨fun ad e hp => by
    have := own_base HO1.out ad.block (by rw [e]; rfl)
    have := HPL.out
    have := HB0.out.size
    omega⟩
  obtain ⟨d0, d1, d2, _, _, _⟩ := three_cells (blk_keep HH0.out hb1)
  clear ho1 hb1 hr1 c0 c1 c2 f0 f1 f2
  have hk := HK.out
  have HV : Aside0 (callT t (kd, n, b) = (t.crash n, 0)) := ⟨by subst hk; rfl⟩
  have b0 : (kd == 0) = false := beq_eq_false_iff_ne.2 (by omega)
  have b1 : (kd == 1) = false := beq_eq_false_iff_ne.2 (by omega)
  have b2 : (kd == 2) = true := beq_iff_eq.2 hk
  clear hk
  go_wp2_with fail
  refine (crash_calls _ p t _ n HT1.out HOK.out.2.1).mono ?_
  intro e w2 hret
  have hmid := mid_of_ret HB0.out HO1.out HB1.out HT1.out hret HPL.out
  obtain ⟨rfl, _, _⟩ := hret
  have HMID : Aside0 (Turn w p F (callT t (kd, n, b)).1 b.length (.slice A1 b.length c3) w2) := ⟨by rw [HV.out]; exact hmid.turn HOK.out.2.2⟩
  clear hmid
  go_wp2_with fail
  go_loopw [7] (fun v7 wr => ∃ (i : Nat), i ≤ b.length ∧ v7 = .int .i64 i ∧ Aside0 (Turn w p F (callT t (kd, n, b)).1 b.length (.slice A1 b.length c3) wr)) (fun v _ => b.length - (intOf v).toNat)
  case atStart => exact ⟨0, by omega, rfl, HMID⟩
  case round =>
    obtain ⟨i, hi, rfl, HT5⟩ := hrel
    by_cases hlt : i < b.length
    · obtain ⟨g, z, rfl, hzb, hc, hf, hset⟩ := HT5.out.at hlt
      have HX := Aside0.mk hset
      clear hset
      obtain ⟨hz0, hz1⟩ := hzb
      have hxor := u8_xor hz0 hz1 (show (0 : Int) ≤ 255 by omega) (show (255 : Int) < 256 by omega)
      have hxb : Byte ((z.toNat ^^^ (255 : Int).toNat : Nat) : Int) := by have := xor_byte (a := z.toNat) (b := (255 : Int).toNat) (by omega) (by omega); unfold Byte; omega
      obtain ⟨x, hx⟩ : ∃ x : Int, x = ((z.toNat ^^^ (255 : Int).toNat : Nat) : Int) := ⟨_, rfl⟩
      rw [← hx] at hxor hxb
      have HX2 := Aside0.mk (HX.out x hxb)
      clear hx hxb
      go_wp2_with fail
      refine ⟨⟨i + 1, by omega, by go_num, HX2⟩, by simp [intOf]; omega⟩
    · obtain rfl : i = b.length := by omega
      go_wp2_with fail
      go_ret
      have hz := HT5.out.ret 0
      have hv : (callT t (kd, n, b)).2 = 0 := by rw [HV.out]
      rw [hv]
      exact hz
set_option maxHeartbeats 2000000 in
theorem call_3 (w : World) (p : Nat) (t : TS) (F : Nat → Prop) (kd n : Int) (b : List Int) (B : Option Addr) (c : Nat) (h : TapeAt w p t F) (hr : Kd.C (Kd.int .u8) w B b.length b) (ho : OpS.ok (kd, n, b)) (hlen : b.length ≤ 140737488355328) (hk : kd = 3) :
    Calls Try.prog 12 #[.pointer (some ⟨p, 0, none⟩), .agg #[.int .i64 kd, .int .i64 n, .slice B b.length c]] w (RetT w p F (callT t (kd, n, b)).1 (callT t (kd, n, b)).2) := by
  have HK := Aside0.mk hk
  clear hk
  have HPL : Aside0 (p < w.heap.size) := ⟨by obtain ⟨_, _, hh, _⟩ := h; exact (Array.getElem?_eq_some_iff.1 hh).1⟩
  have HT := Aside0.mk (h.mono (G := fun k => F k ∧ k < w.heap.size) (fun k hk hlt => ⟨hk, hlt⟩))
  have HR := Aside0.mk hr
  have HOK := Aside0.mk ho
  clear h hr ho
  go_enter Try.func12, Try.ntmps12
  go_wp2_with fail
  obtain ⟨w0, hw0⟩ : ∃ w0, w0 = w.alloc (.cells #[.int .i64 kd, .int .i64 n, .slice B b.length c] 32) := ⟨_, rfl⟩
  have hb0 : Below w.heap.size w w0 := by rw [hw0]; exact below_alloc (Below.refl _ _) _
  have hh0 : w0.heap[w.heap.size]? = some (.cells #[.int .i64 kd, .int .i64 n, .slice B b.length c] 32 (0, 0)) := by rw [hw0]; exact heap_alloc_new w _
  rw [← hw0]
  have HB0 := Aside0.mk hb0
  have HH0 := Aside0.mk hh0
  clear hw0 hb0 hh0
  obtain ⟨c0, c1, c2, f0, f1, f2⟩ := three_cells HH0.out
  go_wp2_with fail
  refine (copy_calls _ B c b (Kd.C_below HR.out HB0.out) hlen).mono ?_
  rintro e w1 ⟨v, rfl, ho1, hb1⟩
  have HO1 := Aside0.mk ho1
  have HB1 := Aside0.mk hb1
  have HT1 := Aside0.mk ((HT.out.below HB0.out).below (hb1.mono (Nat.le_refl _)))
  obtain ⟨A1, c3, rfl, hr1⟩ := ho1.reads
  have HR1 := Aside0.mk hr1
  have HNE : Aside0 (∀ ad, A1 = some ad → ad.block ≠ p) := ⟨fun ad e hp => by
    have := own_base HO1.out ad.block (by rw [e]; rfl)
    have := HPL.out
    have := HB0.out.size
    omega⟩
  obtain ⟨d0, d1, d2, _, _, _⟩ := three_cells (blk_keep HH0.out hb1)
  clear ho1 hb1 hr1 c0 c1 c2 f0 f1 f2
  have hk := HK.out
  have HV : Aside0 (callT t (kd, n, b) = t.cut n) := ⟨by subst hk; rfl⟩
  have b0 : (kd == 0) = false := beq_eq_false_iff_ne.2 (by omega)
  have b1 : (kd == 1) = false := beq_eq_false_iff_ne.2 (by omega)
  have b2 : (kd == 2) = false := beq_eq_false_iff_ne.2 (by omega)
  have b3 : (kd == 3) = true := beq_iff_eq.2 hk
  clear hk
  go_wp2_with fail
  refine (cut_calls _ p t _ n HT1.out).mono ?_
  intro e w2 hret
  have hmid := mid_of_ret HB0.out HO1.out HB1.out HT1.out hret HPL.out
  obtain ⟨rfl, _, _⟩ := hret
  have HMID : Aside0 (Turn w p F (callT t (kd, n, b)).1 b.length (.slice A1 b.length c3) w2) := ⟨by rw [HV.out]; exact hmid.turn HOK.out.2.2⟩
  clear hmid
  go_wp2_with fail
  go_loopw [7] (fun v7 wr => ∃ (i : Nat), i ≤ b.length ∧ v7 = .int .i64 i ∧ Aside0 (Turn w p F (callT t (kd, n, b)).1 b.length (.slice A1 b.length c3) wr)) (fun v _ => b.length - (intOf v).toNat)
  case atStart => exact ⟨0, by omega, rfl, HMID⟩
  case round =>
    obtain ⟨i, hi, rfl, HT5⟩ := hrel
    by_cases hlt : i < b.length
    · obtain ⟨g, z, rfl, hzb, hc, hf, hset⟩ := HT5.out.at hlt
      have HX := Aside0.mk hset
      clear hset
      obtain ⟨hz0, hz1⟩ := hzb
      have hxor := u8_xor hz0 hz1 (show (0 : Int) ≤ 255 by omega) (show (255 : Int) < 256 by omega)
      have hxb : Byte ((z.toNat ^^^ (255 : Int).toNat : Nat) : Int) := by have := xor_byte (a := z.toNat) (b := (255 : Int).toNat) (by omega) (by omega); unfold Byte; omega
      obtain ⟨x, hx⟩ : ∃ x : Int, x = ((z.toNat ^^^ (255 : Int).toNat : Nat) : Int) := ⟨_, rfl⟩
      rw [← hx] at hxor hxb
      have HX2 := Aside0.mk (HX.out x hxb)
      clear hx hxb
      go_wp2_with fail
      refine ⟨⟨i + 1, by omega, by go_num, HX2⟩, by simp [intOf]; omega⟩
    · obtain rfl : i = b.length := by omega
      go_wp2_with fail
      go_ret
      have hz := HT5.out.ret (t.cut n).2
      have hv : (callT t (kd, n, b)).2 = (t.cut n).2 := by rw [HV.out]
      rw [hv]
      exact hz
set_option maxHeartbeats 2000000 in
theorem call_4 (w : World) (p : Nat) (t : TS) (F : Nat → Prop) (kd n : Int) (b : List Int) (B : Option Addr) (c : Nat) (h : TapeAt w p t F) (hr : Kd.C (Kd.int .u8) w B b.length b) (ho : OpS.ok (kd, n, b)) (hlen : b.length ≤ 140737488355328) (hk : kd = 4) :
    Calls Try.prog 12 #[.pointer (some ⟨p, 0, none⟩), .agg #[.int .i64 kd, .int .i64 n, .slice B b.length c]] w (RetT w p F (callT t (kd, n, b)).1 (callT t (kd, n, b)).2) := by
  have HK := Aside0.mk hk
  clear hk
  have HPL : Aside0 (p < w.heap.size) := ⟨by obtain ⟨_, _, hh, _⟩ := h; exact (Array.getElem?_eq_some_iff.1 hh).1⟩
  have HT := Aside0.mk (h.mono (G := fun k => F k ∧ k < w.heap.size) (fun k hk hlt => ⟨hk, hlt⟩))
  have HR := Aside0.mk hr
  have HOK := Aside0.mk ho
  clear h hr ho
  go_enter Try.func12, Try.ntmps12
  go_wp2_with fail
  obtain ⟨w0, hw0⟩ : ∃ w0, w0 = w.alloc (.cells #[.int .i64 kd, .int .i64 n, .slice B b.length c] 32) := ⟨_, rfl⟩
  have hb0 : Below w.heap.size w w0 := by rw [hw0]; exact below_alloc (Below.refl _ _) _
  have hh0 : w0.heap[w.heap.size]? = some (.cells #[.int .i64 kd, .int .i64 n, .slice B b.length c] 32 (0, 0)) := by rw [hw0]; exact heap_alloc_new w _
  rw [← hw0]
  have HB0 := Aside0.mk hb0
  have HH0 := Aside0.mk hh0
  clear hw0 hb0 hh0
  obtain ⟨c0, c1, c2, f0, f1, f2⟩ := three_cells HH0.out
  go_wp2_with fail
  refine (copy_calls _ B c b (Kd.C_below HR.out HB0.out) hlen).mono ?_
  rintro e w1 ⟨v, rfl, ho1, hb1⟩
  have HO1 := Aside0.mk ho1
  have HB1 := Aside0.mk hb1
  have HT1 := Aside0.mk ((HT.out.below HB0.out).below (hb1.mono (Nat.le_refl _)))
  obtain ⟨A1, c3, rfl, hr1⟩ := ho1.reads
  have HR1 := Aside0.mk hr1
  have HNE : Aside0 (∀ ad, A1 = some ad → ad.block ≠ p) := ⟨fun ad e hp => by
    have := own_base HO1.out ad.block (by rw [e]; rfl)
    have := HPL.out
    have := HB0.out.size
    omega⟩
  obtain ⟨d0, d1, d2, _, _, _⟩ := three_cells (blk_keep HH0.out hb1)
  clear ho1 hb1 hr1 c0 c1 c2 f0 f1 f2
  have hk := HK.out
  have HV : Aside0 (callT t (kd, n, b) = t.swap b) := ⟨by subst hk; rfl⟩
  have b0 : (kd == 0) = false := beq_eq_false_iff_ne.2 (by omega)
  have b1 : (kd == 1) = false := beq_eq_false_iff_ne.2 (by omega)
  have b2 : (kd == 2) = false := beq_eq_false_iff_ne.2 (by omega)
  have b3 : (kd == 3) = false := beq_eq_false_iff_ne.2 (by omega)
  have b4 : (kd == 4) = true := beq_iff_eq.2 hk
  clear hk
  go_wp2_with fail
  refine (swap_calls _ p t _ A1 c3 b HT1.out HR1.out HOK.out.2.2 HNE.out).mono ?_
  intro e w2 hret
  have hmid := mid_of_ret HB0.out HO1.out HB1.out HT1.out hret HPL.out
  obtain ⟨rfl, _, _⟩ := hret
  have HMID : Aside0 (Turn w p F (callT t (kd, n, b)).1 b.length (.slice A1 b.length c3) w2) := ⟨by rw [HV.out]; exact hmid.turn HOK.out.2.2⟩
  clear hmid
  go_wp2_with fail
  go_loopw [7] (fun v7 wr => ∃ (i : Nat), i ≤ b.length ∧ v7 = .int .i64 i ∧ Aside0 (Turn w p F (callT t (kd, n, b)).1 b.length (.slice A1 b.length c3) wr)) (fun v _ => b.length - (intOf v).toNat)
  case atStart => exact ⟨0, by omega, rfl, HMID⟩
  case round =>
    obtain ⟨i, hi, rfl, HT5⟩ := hrel
    by_cases hlt : i < b.length
    · obtain ⟨g, z, rfl, hzb, hc, hf, hset⟩ := HT5.out.at hlt
      have HX := Aside0.mk hset
      clear hset
      obtain ⟨hz0, hz1⟩ := hzb
      have hxor := u8_xor hz0 hz1 (show (0 : Int) ≤ 255 by omega) (show (255 : Int) < 256 by omega)
      have hxb : Byte ((z.toNat ^^^ (255 : Int).toNat : Nat) : Int) := by have := xor_byte (a := z.toNat) (b := (255 : Int).toNat) (by omega) (by omega); unfold Byte; omega
      obtain ⟨x, hx⟩ : ∃ x : Int, x = ((z.toNat ^^^ (255 : Int).toNat : Nat) : Int) := ⟨_, rfl⟩
      rw [← hx] at hxor hxb
      have HX2 := Aside0.mk (HX.out x hxb)
      clear hx hxb
      go_wp2_with fail
      refine ⟨⟨i + 1, by omega, by go_num, HX2⟩, by simp [intOf]; omega⟩
    · obtain rfl : i = b.length := by omega
      go_wp2_with fail
      go_ret
      have hz := HT5.out.ret (t.swap b).2
      have hv : (callT t (kd, n, b)).2 = (t.swap b).2 := by rw [HV.out]
      rw [hv]
      exact hz
set_option maxHeartbeats 2000000 in
theorem call_5 (w : World) (p : Nat) (t : TS) (F : Nat → Prop) (kd n : Int) (b : List Int) (B : Option Addr) (c : Nat) (h : TapeAt w p t F) (hr : Kd.C (Kd.int .u8) w B b.length b) (ho : OpS.ok (kd, n, b)) (hlen : b.length ≤ 140737488355328) (h0 : kd ≠ 0) (h1 : kd ≠ 1) (h2 : kd ≠ 2) (h3 : kd ≠ 3) (h4 : kd ≠ 4) :
    Calls Try.prog 12 #[.pointer (some ⟨p, 0, none⟩), .agg #[.int .i64 kd, .int .i64 n, .slice B b.length c]] w (RetT w p F (callT t (kd, n, b)).1 (callT t (kd, n, b)).2) := by
  have HK := Aside0.mk (And.intro h0 (And.intro h1 (And.intro h2 (And.intro h3 h4))))
  clear h0 h1 h2 h3 h4
  have HPL : Aside0 (p < w.heap.size) := ⟨by obtain ⟨_, _, hh, _⟩ := h; exact (Array.getElem?_eq_some_iff.1 hh).1⟩
  have HT := Aside0.mk (h.mono (G := fun k => F k ∧ k < w.heap.size) (fun k hk hlt => ⟨hk, hlt⟩))
  have HR := Aside0.mk hr
  have HOK := Aside0.mk ho
  clear h hr ho
  go_enter Try.func12, Try.ntmps12
  go_wp2_with fail
  obtain ⟨w0, hw0⟩ : ∃ w0, w0 = w.alloc (.cells #[.int .i64 kd, .int .i64 n, .slice B b.length c] 32) := ⟨_, rfl⟩
  have hb0 : Below w.heap.size w w0 := by rw [hw0]; exact below_alloc (Below.refl _ _) _
  have hh0 : w0.heap[w.heap.size]? = some (.cells #[.int .i64 kd, .int .i64 n, .slice B b.length c] 32 (0, 0)) := by rw [hw0]; exact heap_alloc_new w _
  rw [← hw0]
  have HB0 := Aside0.mk hb0
  have HH0 := Aside0.mk hh0
  clear hw0 hb0 hh0
  obtain ⟨c0, c1, c2, f0, f1, f2⟩ := three_cells HH0.out
  go_wp2_with fail
  refine (copy_calls _ B c b (Kd.C_below HR.out HB0.out) hlen).mono ?_
  rintro e w1 ⟨v, rfl, ho1, hb1⟩
  have HO1 := Aside0.mk ho1
  have HB1 := Aside0.mk hb1
  have HT1 := Aside0.mk ((HT.out.below HB0.out).below (hb1.mono (Nat.le_refl _)))
  obtain ⟨A1, c3, rfl, hr1⟩ := ho1.reads
  have HR1 := Aside0.mk hr1
  have HNE : Aside0 (∀ ad, A1 = some ad → ad.block ≠ p) := ⟨fun ad e hp => by
    have := own_base HO1.out ad.block (by rw [e]; rfl)
    have := HPL.out
    have := HB0.out.size
    omega⟩
  obtain ⟨d0, d1, d2, _, _, _⟩ := three_cells (blk_keep HH0.out hb1)
  clear ho1 hb1 hr1 c0 c1 c2 f0 f1 f2
  obtain ⟨h0, h1, h2, h3, h4⟩ := HK.out
  have HV : Aside0 (callT t (kd, n, b) = (t, 0)) := ⟨by unfold callT; rw [if_neg h0, if_neg h1, if_neg h2, if_neg h3, if_neg h4]⟩
  have b0 : (kd == 0) = false := beq_eq_false_iff_ne.2 (by omega)
  have b1 : (kd == 1) = false := beq_eq_false_iff_ne.2 (by omega)
  have b2 : (kd == 2) = false := beq_eq_false_iff_ne.2 (by omega)
  have b3 : (kd == 3) = false := beq_eq_false_iff_ne.2 (by omega)
  have b4 : (kd == 4) = false := beq_eq_false_iff_ne.2 (by omega)
  clear h0 h1 h2 h3 h4
  have hmid := mid_same HB0.out HO1.out HB1.out HT1.out
  have HMID : Aside0 (Turn w p F (callT t (kd, n, b)).1 b.length (.slice A1 b.length c3) w1) := ⟨by rw [HV.out]; exact hmid.turn HOK.out.2.2⟩
  clear hmid
  go_wp2_with fail
  go_loopw [7] (fun v7 wr => ∃ (i : Nat), i ≤ b.length ∧ v7 = .int .i64 i ∧ Aside0 (Turn w p F (callT t (kd, n, b)).1 b.length (.slice A1 b.length c3) wr)) (fun v _ => b.length - (intOf v).toNat)
  case atStart => exact ⟨0, by omega, rfl, HMID⟩
  case round =>
    obtain ⟨i, hi, rfl, HT5⟩ := hrel
    by_cases hlt : i < b.length
    · obtain ⟨g, z, rfl, hzb, hc, hf, hset⟩ := HT5.out.at hlt
      have HX := Aside0.mk hset
      clear hset
      obtain ⟨hz0, hz1⟩ := hzb
      have hxor := u8_xor hz0 hz1 (show (0 : Int) ≤ 255 by omega) (show (255 : Int) < 256 by omega)
      have hxb : Byte ((z.toNat ^^^ (255 : Int).toNat : Nat) : Int) := by have := xor_byte (a := z.toNat) (b := (255 : Int).toNat) (by omega) (by omega); unfold Byte; omega
      obtain ⟨x, hx⟩ : ∃ x : Int, x = ((z.toNat ^^^ (255 : Int).toNat : Nat) : Int) := ⟨_, rfl⟩
      rw [← hx] at hxor hxb
      have HX2 := Aside0.mk (HX.out x hxb)
      clear hx hxb
      go_wp2_with fail
      refine ⟨⟨i + 1, by omega, by go_num, HX2⟩, by simp [intOf]; omega⟩
    · obtain rfl : i = b.length := by omega
      go_wp2_with fail
      go_ret
      have hz := HT5.out.ret 0
      have hv : (callT t (kd, n, b)).2 = 0 := by rw [HV.out]
      rw [hv]
      exact hz
theorem call_calls (w : World) (p : Nat) (t : TS) (F : Nat → Prop) (kd n : Int) (b : List Int) (B : Option Addr) (c : Nat) (h : TapeAt w p t F) (hr : Kd.C (Kd.int .u8) w B b.length b) (ho : OpS.ok (kd, n, b)) (hlen : b.length ≤ 140737488355328) :
    Calls Try.prog 12 #[.pointer (some ⟨p, 0, none⟩), .agg #[.int .i64 kd, .int .i64 n, .slice B b.length c]] w (RetT w p F (callT t (kd, n, b)).1 (callT t (kd, n, b)).2) := by
  by_cases h0 : kd = 0
  · exact call_0 w p t F kd n b B c h hr ho hlen h0
  by_cases h1 : kd = 1
  · exact call_1 w p t F kd n b B c h hr ho hlen h1
  by_cases h2 : kd = 2
  · exact call_2 w p t F kd n b B c h hr ho hlen h2
  by_cases h3 : kd = 3
  · exact call_3 w p t F kd n b B c h hr ho hlen h3
  by_cases h4 : kd = 4
  · exact call_4 w p t F kd n b B c h hr ho hlen h4
  exact call_5 w p t F kd n b B c h hr ho hlen h0 h1 h2 h3 h4
end Go.Proofs.Ytcicehldhelmbaa.Oct
