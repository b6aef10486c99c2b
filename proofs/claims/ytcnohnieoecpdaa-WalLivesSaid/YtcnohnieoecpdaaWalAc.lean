import Derived.Test.YtcnohnieoecpdaaWalX
namespace Go.Proofs.Ytcnohnieoecpdaa.Oct
open Go.RowKit Go.Proofs.YtcnohnieoecpdaaW.PrintWords Go.Proofs.Ytcnohnieoecpdaa.M
set_option linter.unusedVariables false
set_option linter.unusedSimpArgs false
theorem C_str {w : World} {A : Option Addr} {n c : Nat} {xs : List Int} (h : (Kd.int .u8).C w A n xs) : (convert 22 9 (.slice A n c)).run Try.prog w = .ok (.string (strOfNums xs)) w :=
  Kd.C_string Try.underlying22 Try.underlying5 Try.underlying9 h
theorem C_take {w : World} {A : Option Addr} {xs : List Int} (h : (Kd.int .u8).C w A xs.length xs) (n : Nat) (hn : n ≤ xs.length) : (Kd.int .u8).C w A n (xs.take n) := by
  refine ⟨(by simp [hn]), Nat.le_trans hn h.2.1, fun h0 => ?_⟩
  obtain ⟨ad, e, hc⟩ := h.2.2 (by omega)
  refine ⟨ad, e, fun j y hy => ?_⟩
  rw [List.getElem?_take] at hy
  split at hy
  · exact hc j y hy
  · cases hy
theorem OB.cap {W : World} {base : Nat} {A : Option Addr} {n c : Nat} {xs : List Int} (h : OB W base (.slice A n c) xs) : n ≤ c := by
  rcases h.2 with ⟨e, h0⟩ | ⟨g, cap, cur, e, _, _, h2⟩
  · injection e with _ e _
    omega
  · injection e with _ e e2
    have := h2.2
    omega
theorem TapeAt.is {W : World} {p : Nat} {t : TS} {F : Nat → Prop} (h : TapeAt W p t F) : p < W.heap.size ∧ F p ∧ t.ok := by
  obtain ⟨_, _, hh, _, hp, _, hok⟩ := h
  exact ⟨(Array.getElem?_eq_some_iff.1 hh).1, hp, hok⟩
theorem OB.keep {W W' : World} {base p : Nat} {v : Value} {xs : List Int} (h : OB W base v xs) (hg : W.grownBy W' (some p)) (hp : p < base) : OB W' base v xs :=
  own_move h (fun k hk => hg.block k (own_lt h k hk) (fun e => by have := own_base h k hk; injection e with e; omega))
theorem Kept.of_grown1 {W W' : World} {F : Nat → Prop} {p : Nat} (h : W.grownBy W' (some p)) (hp : F p) : Kept W F W' := Kept.of_grown h (fun k e => by injection e with e; subst e; exact hp)
def RefAt (W : World) (p : Nat) (t : TS) (F : Nat → Prop) : Prop :=
  ∃ v1 v2 xs ys, t.bs = xs ++ ys ∧ t.forced = xs.length ∧ W.heap[p]? = some (.cells #[.int .i64 t.room, v1, v2] 72 (0, 0)) ∧ OB W 0 v1 xs ∧ OB W 0 v2 ys ∧ F p ∧
    (∀ k, v1.ownBlock = some k → F k ∧ k ≠ p) ∧ (∀ k, v2.ownBlock = some k → F k ∧ k ≠ p ∧ v1.ownBlock ≠ some k) ∧ t.ok
theorem RefAt.step {W W' : World} {p : Nat} {t : TS} {F : Nat → Prop} (h : RefAt W p t F) (hb : ∀ k, F k → k < W.heap.size → W'.heap[k]? = W.heap[k]?) : RefAt W' p t F := by
  obtain ⟨v1, v2, xs, ys, h1, h2, hh, ho1, ho2, hp, hk1, hk2, hok⟩ := h
  exact ⟨v1, v2, xs, ys, h1, h2, (hb p hp (Array.getElem?_eq_some_iff.1 hh).1).trans hh, own_move ho1 (fun k hk => hb k (hk1 k hk).1 (own_lt ho1 k hk)), own_move ho2 (fun k hk => hb k (hk2 k hk).1 (own_lt ho2 k hk)), hp, hk1, hk2, hok⟩
theorem RefAt.below {W W' : World} {p : Nat} {t : TS} {F : Nat → Prop} (h : RefAt W p t F) (hb : Below W.heap.size W W') : RefAt W' p t F := h.step (fun k _ hk => hb.block k hk)
theorem RefAt.mono {W : World} {p : Nat} {t : TS} {F G : Nat → Prop} (h : RefAt W p t F) (hg : ∀ k, F k → k < W.heap.size → G k) : RefAt W p t G := by
  obtain ⟨v1, v2, xs, ys, h1, h2, hh, ho1, ho2, hp, hk1, hk2, hok⟩ := h
  exact ⟨v1, v2, xs, ys, h1, h2, hh, ho1, ho2, hg p hp (Array.getElem?_eq_some_iff.1 hh).1, fun k hk => ⟨hg k (hk1 k hk).1 (own_lt ho1 k hk), (hk1 k hk).2⟩, fun k hk => ⟨hg k (hk2 k hk).1 (own_lt ho2 k hk), (hk2 k hk).2⟩, hok⟩
def RetR (W : World) (p : Nat) (F : Nat → Prop) (t : TS) (n : Int) (e : Ending) (W' : World) : Prop := e = .returned (.int .i64 n) ∧ RefAt W' p t (New W F) ∧ Kept W F W'
theorem rnew_bad (w : World) (n : Int) (h : n < 1 ∨ 65536 < n) : Calls Try.prog 31 #[.int .i64 n] w fun e w' => e = .returned (.tuple #[.pointer none, .int .i64 1]) ∧ w' = w := by
  rcases h with h | h
  all_goals
    go_enter Try.func31, Try.ntmps31
    go_wp2
    go_ret2
    exact ⟨rfl, rfl⟩
theorem rnew_good (w : World) (n : Nat) (h1 : 1 ≤ n) (h2 : n ≤ 65536) : Calls Try.prog 31 #[.int .i64 n] w fun e w' => e = .returned (.tuple #[.pointer (some ⟨w.heap.size, 0, none⟩), .int .i64 0]) ∧ RefAt w' w.heap.size ⟨n, [], 0⟩ (fun k => w.heap.size ≤ k) ∧ Below w.heap.size w w' := by
  go_enter Try.func31, Try.ntmps31
  go_wp2
  go_ret2
  refine ⟨rfl, ⟨.slice none 0 0, .slice none 0 0, [], [], rfl, rfl, heap_alloc_new w _, OB.nil _ _, OB.nil _ _, Nat.le_refl _, fun k h => (nomatch h), fun k h => (nomatch h), h1, h2, Nat.zero_le _, Nat.le_refl _, fun x hx => (nomatch hx)⟩, below_alloc (Below.refl _ _) _⟩
theorem rbytes_calls (w : World) (p : Nat) (t : TS) (F : Nat → Prop) (h : RefAt w p t F) : Calls Try.prog 37 #[.pointer (some ⟨p, 0, none⟩)] w fun e w' => ∃ v, e = .returned v ∧ OB w' w.heap.size v t.bs ∧ Below w.heap.size w w' := by
  obtain ⟨v1, v2, xs, ys, h1, h2, hh, ho1, ho2, hp, hk1, hk2, hok⟩ := h
  obtain ⟨A1, d1, rfl, hr1⟩ := ho1.reads
  obtain ⟨A2, d2, rfl, hr2⟩ := ho2.reads
  have hlen : xs.length + ys.length ≤ 65536 := by rw [← List.length_append, ← h1]; exact Nat.le_trans hok.2.2.1 hok.2.1
  have HH := Aside0.mk hh
  have HR1 := Aside0.mk hr1
  have HR2 := Aside0.mk hr2
  have HE := Aside0.mk h1
  clear hh hr1 hr2 h1 h2 ho1 ho2 hk1 hk2 hok hp
  obtain ⟨c0, c1, c2, f0, f1, f2⟩ := three_cells HH.out
  go_enter Try.func37, Try.ntmps37
  go_wp2_with fail
  refine (copy_calls _ A1 d1 xs HR1.out (by omega)).mono ?_
  rintro e w1 ⟨v, rfl, ho, hb⟩
  have HO := Aside0.mk ho
  have HB := Aside0.mk hb
  clear c0 c1 c2 f0 f1 f2
  obtain ⟨c0, c1, c2, f0, f1, f2⟩ := three_cells (blk_keep HH.out hb)
  clear ho hb
  go_wp2_with (at_builtin; refine app_bytes (W0 := w) w.heap.size rfl (.tmp 9) (.tmp 13) rfl v xs ys A2 ys.length d2 rfl rfl HO.out (Kd.C_below HR2.out HB.out) HB.out HB.out.size (by omega) ?_; intro v3 w2 ho3 hb3 _ _; have HO3 := Aside0.mk ho3; have HB3 := Aside0.mk hb3; clear ho3 hb3)
  go_ret
  exact ⟨_, rfl, by rw [HE.out]; exact HO3.out, HB3.out⟩
/-- what a call of the document's tape's leaves behind its last store -/
theorem ref_close {w w1 w' : World} {p : Nat} {t : TS} {F : Nat → Prop} {v1 v2 : Value} {xs ys : List Int} (hp : F p) (hok : t.ok) (hk : Kept w F w1) (e1 : t.bs = xs ++ ys) (e2 : t.forced = xs.length)
    (hh : w'.heap[p]? = some (.cells #[.int .i64 t.room, v1, v2] 72 (0, 0))) (hs : w1.grownBy w' (some p)) (o1 : OB w1 0 v1 xs) (n1 : ∀ k, v1.ownBlock = some k → New w F k ∧ k ≠ p)
    (o2 : OB w1 0 v2 ys) (n2 : ∀ k, v2.ownBlock = some k → New w F k ∧ k ≠ p ∧ v1.ownBlock ≠ some k) : RefAt w' p t (New w F) ∧ Kept w F w' :=
  ⟨⟨v1, v2, xs, ys, e1, e2, hh, own_move o1 (fun k h => hs.block k (own_lt o1 k h) (fun e => by injection e with e; exact (n1 k h).2 e)), own_move o2 (fun k h => hs.block k (own_lt o2 k h) (fun e => by injection e with e; exact (n2 k h).2.1 e)), .inl hp, n1, n2, hok⟩,
   hk.trans (Kept.of_grown1 (F := F) hs hp) (fun k _ h => h)⟩
theorem two_sets (W : World) (p i j : Nat) (v u : Value) : W.grownBy ((W.setCell ⟨p, i, none⟩ v).setCell ⟨p, j, none⟩ u) (some p) := World.grownBy.trans (grown_set W p i v) (grown_set _ p j u)
theorem rforce_calls (w : World) (p : Nat) (t : TS) (F : Nat → Prop) (h : RefAt w p t F) : Calls Try.prog 52 #[.pointer (some ⟨p, 0, none⟩)] w (RetR w p F t.force 0) := by
  have HT := Aside0.mk h
  obtain ⟨v1, v2, xs, ys, h1, h2, hh, ho1, ho2, hp, hk1, hk2, hok⟩ := h
  have HH := Aside0.mk hh
  have HP := Aside0.mk (And.intro hp hok)
  have HPL := Aside0.mk (Array.getElem?_eq_some_iff.1 hh).1
  clear hh ho1 ho2 hk1 hk2 hok h1 h2 hp
  go_enter Try.func52, Try.ntmps52
  go_wp2_with fail
  refine (rbytes_calls _ p t F HT.out).mono ?_
  rintro e w1 ⟨v, rfl, ho, hb⟩
  have HO := Aside0.mk ho
  have HB := Aside0.mk hb
  obtain ⟨A3, c3, rfl, _⟩ := ho.reads
  obtain ⟨c0, c1, c2, f0, f1, f2⟩ := three_cells (blk_keep HH.out hb)
  have HH1 := Aside0.mk (blk_keep HH.out hb)
  clear ho hb
  go_wp2_with fail
  go_ret
  exact ⟨rfl, ref_close HP.out.1 (TS.force_ok HP.out.2) (Kept.of_below F HB.out) (List.append_nil _).symm rfl (heap_set _ (heap_set _ HH1.out)) (two_sets _ _ _ _ _ _) (HO.out.lower (Nat.zero_le _))
    (fun k hk => by have h1 := own_base HO.out k hk; have := HPL.out; exact ⟨.inr h1, by omega⟩) (OB.nil _ _) (fun k hk => (nomatch hk))⟩
set_option maxHeartbeats 1000000 in
theorem rappend_calls (w : World) (p : Nat) (t : TS) (F : Nat → Prop) (A : Option Addr) (c : Nat) (zs : List Int) (h : RefAt w p t F) (hr : Kd.C (Kd.int .u8) w A zs.length zs) (hz : Bytes zs) (hlen : zs.length ≤ 140737488355328) :
    Calls Try.prog 32 #[.pointer (some ⟨p, 0, none⟩), .slice A zs.length c] w (RetR w p F (t.append zs).1 (t.append zs).2) := by
  have HT := Aside0.mk h
  obtain ⟨v1, v2, xs, ys, h1, h2, hh, ho1, ho2, hp, hk1, hk2, hok⟩ := h
  have HZ := Aside0.mk hz
  have HR := Aside0.mk hr
  have HE := Aside0.mk (And.intro h1 h2)
  have HO1 := Aside0.mk ho1
  have HO2 := Aside0.mk ho2
  have HP := Aside0.mk (And.intro hp hok)
  have HPL := Aside0.mk (Array.getElem?_eq_some_iff.1 hh).1
  have HK := Aside0.mk (And.intro hk1 hk2)
  obtain ⟨A1, d1, rfl, _⟩ := ho1.reads
  obtain ⟨A2, d2, rfl, _⟩ := ho2.reads
  have hbl : t.bs.length = xs.length + ys.length := by rw [h1, List.length_append]
  have hle : xs.length + ys.length ≤ t.room := by rw [← hbl]; exact hok.2.2.1
  have hro : t.room ≤ 65536 := hok.2.1
  have HH := Aside0.mk hh
  clear hh hr hz ho1 ho2 hk1 hk2 hok h1 h2 hp
  obtain ⟨c0, c1, c2, f0, f1, f2⟩ := three_cells HH.out
  have q1 : IntKind.i64.wrap ((xs.length : Int) + (ys.length : Int)) = (xs.length : Int) + (ys.length : Int) := IntWalk.i64_in _ (by omega)
  have q2 : IntKind.i64.wrap ((xs.length : Int) + (ys.length : Int) + (zs.length : Int)) = (xs.length : Int) + (ys.length : Int) + (zs.length : Int) := IntWalk.i64_in _ (by omega)
  go_enter Try.func32, Try.ntmps32
  go_wp2_with fail
  go_quiet (fail)
  obtain ⟨w1, hw1⟩ : ∃ w1, w1 = w.drewN nq := ⟨_, rfl⟩
  have HB1 : Aside0 (Below w.heap.size w w1) := ⟨by rw [hw1]; exact below_draws _ _⟩
  have HS1 : Aside0 (w1.heap.size = w.heap.size) := ⟨by rw [hw1]; rfl⟩
  have HH1 := Aside0.mk (blk_keep HH.out HB1.out)
  rw [← hw1]
  clear hw1 c0 c1 c2 f0 f1 f2 q1 q2
  obtain ⟨c0, c1, c2, f0, f1, f2⟩ := three_cells HH1.out
  by_cases hf : t.room < xs.length + ys.length + zs.length
  · have hap : t.append zs = (t, 5) := by unfold TS.append; rw [if_pos (by omega)]
    have HAP := Aside0.mk hap
    have hf' : (t.room : Int) < (xs.length : Int) + (ys.length : Int) + (zs.length : Int) := by omega
    clear hap hf
    go_wp2_with fail
    go_ret
    rw [HAP.out]
    exact ⟨rfl, (HT.out.below HB1.out).mono (fun k hk _ => .inl hk), Kept.of_below F HB1.out⟩
  · have hap : t.append zs = ({ t with bs := t.bs ++ zs }, 0) := by unfold TS.append; rw [if_neg (by omega)]
    have HAP := Aside0.mk hap
    have hf' : (xs.length : Int) + (ys.length : Int) + (zs.length : Int) ≤ (t.room : Int) := by omega
    have HOK2 : Aside0 (TS.ok { t with bs := t.bs ++ zs }) := ⟨by have := TS.append_ok HP.out.2 HZ.out; rw [hap] at this; exact this⟩
    clear hap hf
    go_wp2_with (at_builtin; refine app_bytes (W0 := w1) 0 rfl (.tmp 28) (.tmp 29) rfl (.slice A2 ys.length d2) ys zs A zs.length c rfl rfl (HO2.out.below HB1.out) (Kd.C_below HR.out HB1.out) ((Below.refl w1.heap.size w1).mono (Nat.zero_le _)) (Nat.zero_le _) (by omega) ?_; intro v3 w2 ho3 _ hg3 hb3; (obtain ⟨A3, d3, rfl, _⟩ := ho3.reads); have HO3 := Aside0.mk ho3; have HG3 := Aside0.mk hg3; have HV3 := Aside0.mk hb3; clear ho3 hg3 hb3; have HH2 : Aside0 (w2.heap[p]? = some (.cells #[.int .i64 t.room, .slice A1 xs.length d1, .slice A2 ys.length d2] 72 (0, 0))) := ⟨by rw [HG3.out.block p (by rw [HS1.out]; exact HPL.out) (fun e => (HK.out.2 p e.symm).2.1 rfl)]; exact HH1.out⟩; clear c0 c1 c2 f0 f1 f2; obtain ⟨c0, c1, c2, f0, f1, f2⟩ := three_cells HH2.out)
    go_ret
    rw [HAP.out]
    have ho3 := HO3.out
    have hv3 := HV3.out
    rw [List.length_append] at ho3 hv3
    refine ⟨rfl, ref_close (w1 := w2) HP.out.1 HOK2.out ?_ (show t.bs ++ zs = xs ++ (ys ++ zs) by rw [HE.out.1, List.append_assoc]) HE.out.2 (heap_set _ HH2.out) (grown_set _ _ _ _) (own_move (HO1.out.below HB1.out) (fun k hk => HG3.out.block k (own_lt (HO1.out.below HB1.out) k hk) (fun e => (HK.out.2 k e.symm).2.2 hk))) (fun k hk => ⟨.inl (HK.out.1 k hk).1, (HK.out.1 k hk).2⟩) ho3 ?_⟩
    · refine (Kept.of_below F HB1.out).trans (G := F) ⟨HG3.out.os, HG3.out.tape, HG3.out.output, HG3.out.size, fun k hk hf => HG3.out.block k hk (fun e => hf (HK.out.2 k e.symm).1)⟩ (fun k _ h => h)
    · intro k hk
      rcases hv3 with h | ⟨b, h, hb⟩
      · obtain ⟨h1, h2, h3⟩ := HK.out.2 k (h.symm.trans hk)
        exact ⟨.inl h1, h2, h3⟩
      · have : k = b := by rw [h] at hk; injection hk with hk; exact hk.symm
        subst this
        have hk' : w.heap.size ≤ k := by rw [← HS1.out]; exact hb
        exact ⟨.inr hk', by have := HPL.out; omega, fun e => by have := own_lt HO1.out k e; omega⟩
theorem rswap_calls (w : World) (p : Nat) (t : TS) (F : Nat → Prop) (A : Option Addr) (c : Nat) (zs : List Int) (h : RefAt w p t F) (hr : Kd.C (Kd.int .u8) w A zs.length zs) (hz : Bytes zs) (hlen : zs.length ≤ 140737488355328) :
    Calls Try.prog 53 #[.pointer (some ⟨p, 0, none⟩), .slice A zs.length c] w (RetR w p F (t.swap zs).1 (t.swap zs).2) := by
  have HT := Aside0.mk h
  obtain ⟨v1, v2, xs, ys, h1, h2, hh, ho1, ho2, hp, hk1, hk2, hok⟩ := h
  have HZ := Aside0.mk hz
  have HR := Aside0.mk hr
  have HP := Aside0.mk (And.intro hp hok)
  have HPL := Aside0.mk (Array.getElem?_eq_some_iff.1 hh).1
  have hro : t.room ≤ 65536 := hok.2.1
  have HH := Aside0.mk hh
  obtain ⟨A1, d1, rfl, _⟩ := ho1.reads
  obtain ⟨A2, d2, rfl, _⟩ := ho2.reads
  clear hh hr hz ho1 ho2 hk1 hk2 hok h1 h2 hp
  obtain ⟨c0, c1, c2, f0, f1, f2⟩ := three_cells HH.out
  go_enter Try.func53, Try.ntmps53
  by_cases hf : t.room < zs.length
  · have HAP : Aside0 (t.swap zs = (t, 5)) := ⟨by unfold TS.swap; rw [if_pos hf]⟩
    go_wp2_with fail
    go_ret
    rw [HAP.out]
    exact ⟨rfl, HT.out.mono (fun k hk _ => .inl hk), Kept.of_below F (Below.refl _ _)⟩
  · have HAP : Aside0 (t.swap zs = ({ t with bs := zs, forced := zs.length }, 0)) := ⟨by unfold TS.swap; rw [if_neg hf]⟩
    have HOK2 : Aside0 (TS.ok { t with bs := zs, forced := zs.length }) := ⟨by have := TS.swap_ok HP.out.2 HZ.out; rw [HAP.out] at this; exact this⟩
    go_wp2_with fail
    refine (copy_calls _ A c zs HR.out hlen).mono ?_
    rintro e w1 ⟨v, rfl, ho, hb⟩
    obtain ⟨A3, c3, rfl, _⟩ := ho.reads
    have HO := Aside0.mk ho
    have HB := Aside0.mk hb
    have HH1 := Aside0.mk (blk_keep HH.out hb)
    clear ho hb c0 c1 c2 f0 f1 f2
    obtain ⟨c0, c1, c2, f0, f1, f2⟩ := three_cells HH1.out
    go_wp2_with fail
    go_ret
    rw [HAP.out]
    exact ⟨rfl, ref_close HP.out.1 HOK2.out (Kept.of_below F HB.out) (List.append_nil _).symm rfl (heap_set _ (heap_set _ HH1.out)) (two_sets _ _ _ _ _ _) (HO.out.lower (Nat.zero_le _))
      (fun k hk => by have h1 := own_base HO.out k hk; have := HPL.out; exact ⟨.inr h1, by omega⟩) (OB.nil _ _) (fun k hk => (nomatch hk))⟩
end Go.Proofs.Ytcnohnieoecpdaa.Oct
