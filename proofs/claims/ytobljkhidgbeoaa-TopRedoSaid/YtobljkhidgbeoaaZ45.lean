
import Derived.Test.YtobljkhidgbeoaaZ34
import Derived.Test.YtobljkhidgbeoaaZ39
import Derived.Test.YtobljkhidgbeoaaZ44
/- TopRedo: a log, its tape and what was found in it as parts of memory; the works that were committed. -/
namespace Go.Proofs.Ytobljkhidgbeoaa.Oct
open Go.RowKit Go.Proofs.YtobljkhidgbeoaaW.PrintWords Go.Proofs.Ytobljkhidgbeoaa.M
set_option linter.unusedVariables false
set_option linter.unusedSimpArgs false
/-- a log beside its tape -/
def LgP (q p : Nat) (t : TS) (ls : List Rc) (W : World) (F : Nat → Prop) : Prop := ∃ A B : Nat → Prop, TapeAt W p t A ∧ LogR W q p ls B ∧ (∀ k, A k → ¬ B k) ∧ (∀ k, A k → k < W.heap.size ∧ F k) ∧ (∀ k, B k → k < W.heap.size ∧ F k)
theorem LgP.mv {q p : Nat} {t : TS} {ls : List Rc} {W W' : World} {F F' : Nat → Prop} (h : LgP q p t ls W F) (hs : W.heap.size ≤ W'.heap.size) (hb : ∀ k, F k → k < W.heap.size → W'.heap[k]? = W.heap[k]? ∧ F' k) : LgP q p t ls W' F' := by
  obtain ⟨A, B, h1, h2, h3, h4, h5⟩ := h
  exact ⟨A, B, h1.step hs (fun k hk hl => (hb k (h4 k hk).2 hl).1), h2.step (fun k hk hl => (hb k (h5 k hk).2 hl).1), h3, fun k hk => ⟨Nat.lt_of_lt_of_le (h4 k hk).1 hs, (hb k (h4 k hk).2 (h4 k hk).1).2⟩, fun k hk => ⟨Nat.lt_of_lt_of_le (h5 k hk).1 hs, (hb k (h5 k hk).2 (h5 k hk).1).2⟩⟩
def lgP (q p : Nat) (t : TS) (ls : List Rc) : Part := ⟨LgP q p t ls, LgP.mv⟩
theorem LgP.to {q p : Nat} {t : TS} {ls : List Rc} {W : World} {F : Nat → Prop} (h : LgP q p t ls W F) : LgAt 0 W q p t ls (fun k => k < W.heap.size ∧ ¬ F k) := by
  obtain ⟨A, B, h1, h2, h3, h4, h5⟩ := h
  exact ⟨A, B, h1, h2, h3, fun k hk => ⟨Nat.zero_le _, (h4 k hk).1, fun h => h.2 (h4 k hk).2⟩, fun k hk => ⟨Nat.zero_le _, (h5 k hk).1, fun h => h.2 (h5 k hk).2⟩⟩
theorem LgP.of {q p b : Nat} {t : TS} {ls : List Rc} {W : World} {F ex : Nat → Prop} (h : LgAt b W q p t ls ex) (hF : ∀ k, b ≤ k → ¬ ex k → F k) : LgP q p t ls W F := by
  obtain ⟨A, B, h1, h2, h3, h4, h5⟩ := h
  exact ⟨A, B, h1, h2, h3, fun k hk => ⟨(h4 k hk).2.1, hF k (h4 k hk).1 (h4 k hk).2.2⟩, fun k hk => ⟨(h5 k hk).2.1, hF k (h5 k hk).1 (h5 k hk).2.2⟩⟩
theorem kx_kp {W W' : World} {F : Nat → Prop} (h : KX 0 W (fun k => k < W.heap.size ∧ ¬ F k) W') : Kp W F W' := ⟨h.below.os, h.below.tape, h.below.output, h.below.size, fun k hk hf => h.block k ⟨hk, hf⟩ hk⟩
theorem St.lg {P : Program} {f : Nat} {args : Array Value} {w W : World} {F : Nat → Prop} {q p : Nat} {t t' : TS} {ls ls' : List Rc} {l : List Part} {n : Int} (h : St w F W (lgP q p t ls :: l))
    (hc : ∀ ex : Nat → Prop, (∀ k, ex k → k < W.heap.size) → LgAt 0 W q p t ls ex → (∀ W', KX 0 W ex W' → ∃ w F, St w F W' l) → Calls P f args W fun e W' => e = .returned (.int .i64 n) ∧ LgAt 0 W' q p t' ls' ex ∧ KX 0 W ex W') :
    Calls P f args W fun e W' => e = .returned (.int .i64 n) ∧ St w F W' (lgP q p t' ls' :: l) := by
  obtain ⟨F1, h1, _, h2, h3⟩ := St.part (l1 := [lgP q p t ls]) h
  refine (hc _ (fun k hk => hk.1) (LgP.to h1.one) (fun W' hk => ⟨w, F, h2 W' (kx_kp hk)⟩)).mono ?_
  rintro e W' ⟨rfl, hl, hk⟩
  refine ⟨rfl, h3 [lgP q p t' ls'] W' (Sep.of_one (LgP.of hl (fun k _ he => ?_))) (kx_kp hk)⟩
  rcases Nat.lt_or_ge k W.heap.size with h' | h'
  · left
    by_cases hf : F1 k
    · exact hf
    · exact absurd ⟨h', hf⟩ he
  · exact .inr h'
/-- what was found, a row of records -/
theorem LR.mv {v : Value} {ls : List Rc} {W W' : World} {F F' : Nat → Prop} (h : LR W F v ls) (hb : ∀ k, F k → k < W.heap.size → W'.heap[k]? = W.heap[k]? ∧ F' k) : LR W' F' v ls := by
  have h1 : LR W (fun k => F k ∧ F' k ∧ k < W.heap.size) v ls := h.mono (fun k hk hl => ⟨hk, (hb k hk hl).2, hl⟩)
  exact (h1.step (fun k hk hl => (hb k hk.1 hl).1)).mono (fun k hk _ => hk.2.1)
def fdP (v : Value) (ls : List Rc) : Part := ⟨fun W F => LR W F v ls, fun h _ hb => LR.mv h hb⟩
theorem St.add {w W : World} {F : Nat → Prop} {q p : Nat} {t : TS} {ls : List Rc} {l : List Part} (h : St w F W (lgP q p t ls :: l)) (r : Rc) (A : Option Addr) (c : Nat) (f : Bool) (hr : ∀ w F W', St w F W' l → Kd.C (Kd.int .u8) W' A r.2.length r.2) (hcap : r.2.length ≤ c) (hb : Bytes r.2) (hll : ls.length ≤ 1000000) :
    Calls Try.prog 11 #[.pointer (some ⟨q, 0, none⟩), .agg #[.int .i64 r.1, .slice A r.2.length c], .bool f] W fun e W' => e = .returned (.int .i64 (addP t ls r f).2.2) ∧ St w F W' (lgP q p (addP t ls r f).1 (addP t ls r f).2.1 :: l) :=
  h.lg (fun ex hx hl hk => add_calls W 0 q p t ls ex r A c f hl hx (Nat.zero_le _) (fun W' hw => by obtain ⟨w1, F1, hst⟩ := hk W' hw; exact hr w1 F1 W' hst) hcap hb hll)
theorem St.crash {w W : World} {F : Nat → Prop} {q p : Nat} {t : TS} {ls : List Rc} {l : List Part} (h : St w F W (lgP q p t ls :: l)) (n : Int) (hn : -9223372036854775808 ≤ n ∧ n ≤ 9223372036854775807) :
    Calls Try.prog 13 #[.pointer (some ⟨p, 0, none⟩), .int .i64 n] W fun e W' => e = .returned (.int .i64 0) ∧ St w F W' (lgP q p (t.crash n) ls :: l) :=
  h.lg (fun ex hx hl hk => hl.tape hx (Nat.zero_le _) (fun A hA => crash_calls W p t A n hA hn))
/-- a log that is opened: what it has -/
theorem St.open0 {w W W' : World} {p : Nat} {t : TS} {A : Nat → Prop} {e : Ending} (hb : Below w.heap.size w W) (ht : TapeAt W p t A) (hA : ∀ k, A k → w.heap.size ≤ k ∧ k < W.heap.size) (h : RetOp W p A t e W') :
    ∃ q C c, e = .returned (.tuple #[.pointer (some ⟨q, 0, none⟩), .slice C (recsOf t.bs).length c, .int .i64 0]) ∧ St w (fun _ => False) W' [lgP q p t.opened (recsOf t.bs)] := by
  obtain ⟨q, C, c, v, rfl, _, hq, hh, hr, ht4, hg⟩ := h
  have hp : A p := by obtain ⟨_, _, _, _, hp, _⟩ := ht; exact hp
  have hl := LgAt.opened (base := w.heap.size) hA hb.size hp hq hh hr ht4 hg
  have hb4 : Below w.heap.size w W' := hb.grown hg hb.size (fun k e => by injection e with e; subst e; exact (hA _ hp).1)
  exact ⟨q, C, c, rfl, Sep.of_one (LgP.of hl (fun k hk _ => .inr hk)), Kp.of_below _ hb4⟩
/-- .. opened anew: what was found -/
theorem St.found {w W : World} {F : Nat → Prop} {q p : Nat} {t : TS} {ls : List Rc} {l : List Part} (h : St w F W (lgP q p t ls :: l)) :
    Calls Try.prog 5 #[.pointer (some ⟨p, 0, none⟩)] W fun e W' => ∃ q' C c, e = .returned (.tuple #[.pointer (some ⟨q', 0, none⟩), .slice C (recsOf t.bs).length c, .int .i64 0]) ∧ St w F W' (fdP (.slice C (recsOf t.bs).length c) (recsOf t.bs) :: l) := by
  obtain ⟨F1, h1, _, _, h3⟩ := St.part (l1 := [lgP q p t ls]) h
  obtain ⟨A, B, a1, _, _, a4, _⟩ := h1.one
  have hp : A p := by obtain ⟨_, _, _, _, hp, _⟩ := a1; exact hp
  refine (open_calls W p t A a1).mono ?_
  rintro e W' ⟨q', C, c, v, rfl, hr, _, _, _, _, hg⟩
  refine ⟨q', C, c, rfl, h3 [fdP (.slice C (recsOf t.bs).length c) (recsOf t.bs)] W' (Sep.of_one ?_) (Kp.of_grown hg (fun k e => by injection e with e; subst e; exact (a4 _ hp).2))⟩
  exact (LR.of_RW hr).mono (fun k hk _ => .inr hk.1)
/-! the works that were committed, one behind the other -/
def stAt (cs : List (List Ch)) (k : Nat) : RS := (cs.take k).foldl (fun B l => B.after (chFront l) (chRest l)) RS.new
def stepOk (B : RS) (l : List Ch) : Prop := chGood (chFront l) ∧ QFit B (chRest l)
def Fine (cs : List (List Ch)) : Prop := ∀ k, k < cs.length → stepOk (stAt cs k) (cs.getD k [])
theorem stAt_succ {cs : List (List Ch)} {k : Nat} (h : k < cs.length) : stAt cs (k + 1) = (stAt cs k).after (chFront (cs.getD k [])) (chRest (cs.getD k [])) := by
  unfold stAt
  rw [List.take_succ_eq_append_getElem h, List.foldl_append, List.getD_eq_getElem?_getD, List.getElem?_eq_getElem h]
  rfl
theorem stAt_snoc {cs : List (List Ch)} {l : List Ch} {k : Nat} (h : k ≤ cs.length) : stAt (cs ++ [l]) k = stAt cs k := by
  unfold stAt
  rw [List.take_append_of_le_length h]
theorem Fine.idle {cs : List (List Ch)} (h : Fine cs) : ∀ k, k ≤ cs.length → (stAt cs k).idle
  | 0, _ => new_idle
  | k + 1, hk => by
    rw [stAt_succ (by omega)]
    exact RS.after_idle (h.idle k (by omega)) (h k (by omega)).2
theorem Fine.snoc {cs : List (List Ch)} {l : List Ch} (h : Fine cs) (hl : stepOk (stAt cs cs.length) l) : Fine (cs ++ [l]) := fun k hk => by
  rw [List.length_append] at hk
  simp only [List.length_cons, List.length_nil] at hk
  rcases Nat.lt_or_ge k cs.length with h1 | h1
  · rw [stAt_snoc (by omega), List.getD_eq_getElem?_getD, List.getElem?_append_left h1, ← List.getD_eq_getElem?_getD]
    exact h k h1
  · obtain rfl : k = cs.length := by omega
    rw [stAt_snoc (Nat.le_refl _), List.getD_eq_getElem?_getD, List.getElem?_append_right (Nat.le_refl _), Nat.sub_self]
    exact hl
theorem split_kinds {B : RS} {lk lq : List Ch} (hg : chGood lk) (hq : QFit B lq) : chFront (lk ++ lq) = lk ∧ chRest (lk ++ lq) = lq := front_rest (fun c hc => by
    have := chFit_key (hg.2 c hc).1
    unfold chKv
    rcases this.2.2 with h | h <;> rw [h] <;> rfl) (fun c hc => by
    unfold chKv
    rcases hq.kinds c hc with ⟨h, _⟩ | ⟨h, _⟩ <;> rw [h] <;> rfl)
theorem stepOk.list {B : RS} {l : List Ch} (hB : B.idle) (h : stepOk B l) : l.length ≤ 48 ∧ ∀ c ∈ l, chOk c := by
  have e : l = chFront l ++ chRest l := (List.takeWhile_append_dropWhile).symm
  refine ⟨?_, fun c hc => ?_⟩
  · rw [e, List.length_append]
    have := chGood_len h.1
    have := h.2.len hB
    omega
  · rw [e] at hc
    unfold chOk
    rcases List.mem_append.1 hc with hc | hc
    · have := chFit_key (h.1.2 c hc).1
      have h2 := (h.1.2 c hc).2
      exact ⟨by omega, by omega, by omega, by omega, h2⟩
    · have h2 := h.2.vals c hc
      rcases h.2.kinds c hc with ⟨h1, h3⟩ | ⟨h1, x, hx, h3⟩
      · exact ⟨by omega, by omega, by omega, by omega, h2⟩
      · have := hB.item x hx
        exact ⟨by omega, by omega, by omega, by omega, h2⟩
theorem wrB_bytes {l : List Ch} (h : ∀ c ∈ l, chOk c) : Bytes (wrB l) := fun x hx => by
  obtain ⟨c, hc, hx⟩ := List.mem_flatMap.1 hx
  have hk := h c hc
  unfold chB at hx
  rcases List.mem_append.1 hx with hx | hx
  · obtain rfl := List.mem_singleton.1 hx
    unfold Byte
    have := hk.1
    have := hk.2.1
    omega
  · rcases List.mem_append.1 hx with hx | hx
    · exact beB_bytes _ _ x hx
    · exact beB_bytes _ _ x hx
/-- the records of the works -/
def recsC (cs : List (List Ch)) : List Rc := cs.map fun l => (5, wrB l)
theorem recsC_good {cs : List (List Ch)} (h : Fine cs) : ∀ r ∈ recsC cs, r.good ∧ Bytes r.2 := fun r hr => by
  obtain ⟨l, hl, rfl⟩ := List.mem_map.1 hr
  obtain ⟨k, hk, rfl⟩ := List.getElem_of_mem hl
  have h1 := h k hk
  rw [List.getD_eq_getElem?_getD, List.getElem?_eq_getElem hk] at h1
  have h2 := stepOk.list (h.idle k (by omega)) h1
  refine ⟨⟨by show (1 : Int) ≤ 5; decide, by show (5 : Int) ≤ 255; decide, ?_⟩, wrB_bytes h2.2⟩
  show (wrB _).length ≤ 1024
  rw [wrB_len]
  have := h2.1
  simp only [Option.getD_some] at this
  omega
/-- what a work's record does to the log -/
theorem add_rec {cs : List (List Ch)} {l : List Ch} {t : TS} {f : Bool} {sure : Nat} (hF : Fine cs) (hl : stepOk (stAt cs cs.length) l) (ht : t.bs = allB (recsC cs)) (hr : t.room = 65536) (hcs : cs.length ≤ 12) (hs : sure ≤ cs.length) (hf : t.forced = (allB (recsC (cs.take sure))).length) :
    ∃ t' : TS, addP t (recsC cs) (5, wrB l) f = (t', recsC (cs ++ [l]), 0) ∧ t'.bs = allB (recsC (cs ++ [l])) ∧ t'.room = 65536 ∧ t'.forced = (allB (recsC ((cs ++ [l]).take (if f then cs.length + 1 else sure)))).length := by
  have h2 := stepOk.list (hF.idle cs.length (Nat.le_refl _)) hl
  have hg : Rc.good (5, wrB l) := ⟨by show (1 : Int) ≤ 5; decide, by show (5 : Int) ≤ 255; decide, by show (wrB l).length ≤ 1024; rw [wrB_len]; omega⟩
  have hlen : (allB (recsC cs)).length ≤ 1031 * (recsC cs).length := allB_le (fun r hr => (recsC_good hF r hr).1)
  have hlen2 : (recsC cs).length = cs.length := by unfold recsC; rw [List.length_map]
  have hal : (Rc.all (5, wrB l)).length ≤ 1031 := by rw [Rc.all_len]; have := hg.2.2; omega
  have hsn : recsC (cs ++ [l]) = recsC cs ++ [(5, wrB l)] := by unfold recsC; rw [List.map_append]; rfl
  unfold addP
  rw [if_pos hg, if_neg (by rw [ht, hr]; omega)]
  refine ⟨_, by rw [hsn], ?_⟩
  rw [hsn, allB_snoc]
  cases f with
  | true =>
    refine ⟨by show t.bs ++ _ = _; rw [ht], hr, ?_⟩
    show (t.bs ++ Rc.all (5, wrB l)).length = _
    have e : (if true = true then cs.length + 1 else sure) = cs.length + 1 := rfl
    rw [e, List.take_of_length_le (by simp), hsn, allB_snoc, ht]
  | false =>
    refine ⟨by show t.bs ++ _ = _; rw [ht], hr, ?_⟩
    show t.forced = _
    have e : (if false = true then cs.length + 1 else sure) = sure := rfl
    rw [e, List.take_append_of_le_length hs]
    exact hf
end Go.Proofs.Ytobljkhidgbeoaa.Oct
/- TopRedo: its argument; images as parts of memory. -/
namespace Go.Proofs.Ytobljkhidgbeoaa.Oct
open Go.RowKit Go.Proofs.YtobljkhidgbeoaaW.PrintWords Go.Proofs.Ytobljkhidgbeoaa.M Go.Proofs.Ytobljkhidgbeoaa.Rd
set_option linter.unusedVariables false
set_option linter.unusedSimpArgs false
abbrev C3 := Int × Int × Int
abbrev chK : Kd C3 := Kd.pair (Kd.int .i64) (Kd.pair (Kd.int .i64) (Kd.int .u64))
def C3G (o : C3) : Prop := (Lit.int .i64 o.1).wf = true ∧ (Lit.int .i64 o.2.1).wf = true ∧ (Lit.int .u64 o.2.2).wf = true
abbrev Tk := List C3 × Bool × Bool
abbrev taskK : Kd Tk := Kd.pair (Kd.slice 94 chK) (Kd.pair Kd.bool Kd.bool)
def TkG (o : Tk) : Prop := ((∀ x ∈ o.1, C3G x) ∧ o.1.length * Try.prog.bytesOf 94 ≤ reachBytes) ∧ True ∧ True
section
variable {H : Type} {enc : TypeId × Value → H} {w : World} {base : Nat} {spare : Nat → Bool} {held : Bool}
theorem boolRd : Rd enc Try.prog w base spare held 4 Kd.bool (fun _ => True) := by
  refine ⟨by kernel_rfl, fun fuel cs x h _ => ?_⟩
  obtain ⟨b, rfl, rfl⟩ := DataW.trod_bool Try.underlying4 h
  exact ⟨b, rfl, trivial⟩
theorem chRd : Rd enc Try.prog w base spare held 94 chK C3G :=
  Rd.struct (ts := [3, 3, 71]) Try.underlying94 (by rfl) (by kernel_rfl) (by kernel_rfl) (RdL.cons (Rd.int Try.underlying3 (by kernel_rfl)) (RdL.cons (Rd.int Try.underlying3 (by kernel_rfl)) (RdL.one (Rd.int Try.underlying71 (by kernel_rfl)))))
theorem chsRd : Rd enc Try.prog w base spare held 39 (Kd.slice 94 chK) (fun xs => (∀ x ∈ xs, C3G x) ∧ xs.length * Try.prog.bytesOf 94 ≤ reachBytes) := Rd.slice Try.underlying39 (by kernel_rfl) chRd
theorem taskRd : Rd enc Try.prog w base spare held 42 taskK TkG :=
  Rd.struct (ts := [39, 4, 4]) Try.underlying42 (by rfl) (by kernel_rfl) (by kernel_rfl) (RdL.cons chsRd (RdL.cons boolRd (RdL.one boolRd)))
theorem tasksRd : Rd enc Try.prog w base spare held 22 (Kd.slice 42 taskK) (fun xs => (∀ x ∈ xs, TkG x) ∧ xs.length * Try.prog.bytesOf 42 ≤ reachBytes) := Rd.slice Try.underlying22 (by kernel_rfl) taskRd
end
def toCh (c : C3) : Ch := ⟨c.1, c.2.1, c.2.2⟩
theorem C3G.u64 {c : C3} (h : C3G c) : U64 (toCh c).val := by
  have h1 := h.2.2
  show 0 ≤ c.2.2 ∧ c.2.2 ≤ 18446744073709551615
  simp [Lit.wf] at h1
  exact h1
theorem ch_at {W : World} {A : Option Addr} {n : Nat} {l : List C3} (h : chK.C W A n l) : ChAt W A (l.map toCh) := fun k hk => by
  rw [List.length_map] at hk
  have hn : n = l.length := h.1.symm
  obtain ⟨ad, c, e, hs, hK, hcell⟩ := Kd.C_get h (0, 0, 0) (k : Int) (by omega) (by omega)
  simp only [Int.toNat_natCast] at hK hcell
  obtain ⟨c0, _, rfl, h0, c1, c2, rfl, h1, h2⟩ := hK
  have h0' : c0 = [.int .i64 (l.getD k (0, 0, 0)).1] := h0
  have h1' : c1 = [.int .i64 (l.getD k (0, 0, 0)).2.1] := h1
  have h2' : c2 = [.int .u64 (l.getD k (0, 0, 0)).2.2] := h2
  subst h0' h1' h2'
  have eg : (l.map toCh).getD k ch0 = toCh (l.getD k (0, 0, 0)) := by
    rw [List.getD_eq_getElem?_getD, List.getElem?_map, List.getElem?_eq_getElem hk, List.getD_eq_getElem?_getD, List.getElem?_eq_getElem hk]
    rfl
  rw [eg]
  exact ⟨ad, e, hcell 0 _ rfl, (by rw [← add_lit_add]; exact hcell 1 _ rfl), (by rw [← add_lit_add]; exact hcell 2 _ rfl)⟩
theorem task_at {W : World} {A : Option Addr} {n : Nat} {l : List Tk} (h : taskK.C W A n l) {k : Nat} (hk : k < n) (z : Tk) :
    ∃ ad B c, A = some ad ∧ W.cell? (ad.add (k * 3)) = some (.slice B (l.getD k z).1.length c) ∧ W.cell? ⟨(ad.add (k * 3)).block, (ad.add (k * 3)).off + 1, none⟩ = some (.bool (l.getD k z).2.1) ∧ W.cell? ⟨(ad.add (k * 3)).block, (ad.add (k * 3)).off + 2, none⟩ = some (.bool (l.getD k z).2.2) ∧ (l.getD k z).1.length ≤ c ∧ chK.C W B (l.getD k z).1.length (l.getD k z).1 := by
  obtain ⟨ad, c, e, hs, hK, hcell⟩ := Kd.C_get h z (k : Int) (by omega) (by omega)
  simp only [Int.toNat_natCast] at hK hcell
  obtain ⟨c0, _, rfl, ⟨B, cc, rfl, hl, hr⟩, c1, c2, rfl, h1, h2⟩ := hK
  have h1' : c1 = [.bool (l.getD k z).2.1] := h1
  have h2' : c2 = [.bool (l.getD k z).2.2] := h2
  subst h1' h2'
  exact ⟨ad, B, cc, e, hcell 0 _ rfl, (by rw [← add_lit_add]; exact hcell 1 _ rfl), (by rw [← add_lit_add]; exact hcell 2 _ rfl), hl, hr⟩
/-! images -/
abbrev ImM := List ((Value × Value) × RS)
def imC (M : ImM) : List Value := M.flatMap fun x => [x.1.1, x.1.2, .int .i64 x.2.image.next]
def imRow (v : Value) (M : ImM) : Part := row 36 3 v M.length (imC M)
def imObj (x : (Value × Value) × RS) : Part := sepP [prRow x.1.1 x.2.image.pairs, vRow x.1.2 x.2.qu.items]
def imObjs (M : ImM) : Part := sepP (M.map imObj)
theorem imC_len (M : ImM) : (imC M).length = M.length * 3 := by
  induction M with
  | nil => rfl
  | cons c l ih => show ([_, _, _] ++ imC l).length = _; rw [List.length_append, ih]; simp; omega
theorem imC_get {M : ImM} {k : Nat} {x : (Value × Value) × RS} (hk : M[k]? = some x) : (imC M)[k * 3]? = some x.1.1 ∧ (imC M)[k * 3 + 1]? = some x.1.2 ∧ (imC M)[k * 3 + 2]? = some (.int .i64 x.2.image.next) := by
  induction M generalizing k with
  | nil => simp at hk
  | cons c l ih =>
    have e : imC (c :: l) = [c.1.1, c.1.2, .int .i64 c.2.image.next] ++ imC l := rfl
    rw [e]
    cases k with
    | zero =>
      obtain rfl : c = x := by simpa using hk
      exact ⟨rfl, rfl, rfl⟩
    | succ k =>
      have h := ih (k := k) (by simpa using hk)
      refine ⟨?_, ?_, ?_⟩
      · rw [List.getElem?_append_right (by simp; omega)]
        have : (k + 1) * 3 - 3 = k * 3 := by omega
        simp only [List.length_cons, List.length_nil]
        rw [this]; exact h.1
      · rw [List.getElem?_append_right (by simp; omega)]
        have : (k + 1) * 3 + 1 - 3 = k * 3 + 1 := by omega
        simp only [List.length_cons, List.length_nil]
        rw [this]; exact h.2.1
      · rw [List.getElem?_append_right (by simp; omega)]
        have : (k + 1) * 3 + 2 - 3 = k * 3 + 2 := by omega
        simp only [List.length_cons, List.length_nil]
        rw [this]; exact h.2.2
theorem im_cells {A : Option Addr} {n c k : Nat} {M : ImM} {x : (Value × Value) × RS} {W : World} {F : Nat → Prop} (h : (imRow (.slice A n c) M).P W F) (hk : M[k]? = some x) : ∃ ad, A = some ad ∧ W.cell? (ad.add (k * 3)) = some x.1.1 ∧ W.cell? ⟨(ad.add (k * 3)).block, (ad.add (k * 3)).off + 1, none⟩ = some x.1.2 ∧ W.cell? ⟨(ad.add (k * 3)).block, (ad.add (k * 3)).off + 2, none⟩ = some (.int .i64 x.2.image.next) := by
  obtain ⟨g0, g1, g2⟩ := imC_get hk
  have hn : n = M.length := by
    obtain ⟨A', c', e, _⟩ := row_form h.1
    injection e
  subst hn
  obtain ⟨ad, e, k0⟩ := OwnAt.cell h.1 g0
  obtain ⟨ad1, e1, k1⟩ := OwnAt.cell h.1 g1
  obtain ⟨ad2, e2, k2⟩ := OwnAt.cell h.1 g2
  rw [e] at e1 e2
  injection e1 with e1
  injection e2 with e2
  subst e1 e2
  exact ⟨ad, e, k0, by rw [add_more]; exact k1, by rw [add_more]; exact k2⟩
theorem im_rows {M : ImM} {k : Nat} {x : (Value × Value) × RS} {W : World} {F : Nat → Prop} (h : (imObjs M).P W F) (hk : M[k]? = some x) : ∃ A c I d, x.1 = (.slice A x.2.image.pairs.length c, .slice I x.2.qu.items.length d) ∧ PrAt W A x.2.image.pairs ∧ U64At W I (x.2.qu.items.map (·.val)) := by
  have h1 : Sep (M.map imObj) W F := h
  have h2 := h1.at (i := k) (A := imObj x) (by rw [List.getElem?_map, hk]; rfl)
  have h3 : Sep [prRow x.1.1 x.2.image.pairs, vRow x.1.2 x.2.qu.items] W F := h2
  obtain ⟨A, c, e1, p1⟩ := pr_at h3.head
  obtain ⟨I, d, e2, p2⟩ := v_at h3.tail.head
  exact ⟨A, c, I, d, Prod.ext e1 e2, p1, p2⟩
theorem Sep.im_new {M : ImM} {x : (Value × Value) × RS} {l : List Part} {W : World} {F : Nat → Prop} (h : Sep (imObj x :: imObjs M :: l) W F) : Sep (imObjs (M ++ [x]) :: l) W F := by
  have h1 : Sep ((x :: M).map imObj ++ l) W F := Sep.cons_imp h (fun G hg => hg.flat)
  exact (h1.perm (((List.perm_append_singleton x M).symm.map imObj).append_right l)).nest
/-- one image more -/
theorem St.im_step {w W : World} {F : Nat → Prop} {v : Value} {M : ImM} {p i : Value} {s : RS} {g : Part} {l : List Part} (h : St w F W (row 36 3 v (M.length + 1) (imC M ++ [p, i, .int .i64 s.image.next]) :: imObjs M :: prRow p s.image.pairs :: vRow i s.qu.items :: l)) :
    St w F W (imRow v (M ++ [((p, i), s)]) :: imObjs (M ++ [((p, i), s)]) :: l) := by
  have h1 : St w F W ([prRow p s.image.pairs, vRow i s.qu.items] ++ (imObjs M :: row 36 3 v (M.length + 1) (imC M ++ [p, i, .int .i64 s.image.next]) :: l)) := by
    refine h.perm ?_
    refine (List.Perm.swap _ _ _).trans ?_
    refine ((List.Perm.cons _ ((List.Perm.swap _ _ _).trans ((List.Perm.swap _ _ _).cons _)))).trans ?_
    refine (List.Perm.swap _ _ _).trans ?_
    exact (List.Perm.swap _ _ _).cons _
  have h2 : St w F W (imObj ((p, i), s) :: imObjs M :: row 36 3 v (M.length + 1) (imC M ++ [p, i, .int .i64 s.image.next]) :: l) := ⟨Sep.nest h1.1, h1.2⟩
  have h3 : St w F W (imObjs (M ++ [((p, i), s)]) :: row 36 3 v (M.length + 1) (imC M ++ [p, i, .int .i64 s.image.next]) :: l) := ⟨Sep.im_new h2.1, h2.2⟩
  have h4 := h3.perm (List.Perm.swap _ _ _)
  unfold imRow
  have e1 : (M ++ [((p, i), s)]).length = M.length + 1 := by simp
  have e2 : imC (M ++ [((p, i), s)]) = imC M ++ [p, i, .int .i64 s.image.next] := by unfold imC; rw [List.flatMap_append]; rfl
  rw [e1, e2]
  exact h4
end Go.Proofs.Ytobljkhidgbeoaa.Oct
/- what single operations yield, told of operands' values alone -/
namespace Go.Proofs.Ytobljkhidgbeoaa.Oct
open Go.RowKit Go.Proofs.YtobljkhidgbeoaaW.PrintWords Go.Proofs.Ytobljkhidgbeoaa.M
set_option linter.unusedVariables false
set_option linter.unusedSimpArgs false
theorem ex_move {P : Program} {ev : Operand → Value} {o : Oper} {x : Operand} {v : Value} (ho : o.op = .move x) (hx : ev x = v) (w : World) : (execOp ev o).run P w = .ok (.value v) w := by
  unfold execOp; rw [ho]; simp [hx]
theorem ex_assign {P : Program} {ev : Operand → Value} {o : Oper} {x : Operand} {v : Value} (ho : o.op = .assign x) (hx : ev x = v) (w : World) : (execOp ev o).run P w = .ok (.value v) w := by
  unfold execOp; rw [ho]; simp [hx]
theorem ex_pick {P : Program} {ev : Operand → Value} {o : Oper} {x y : Operand} (ho : o.op = .pick x y (.const (.bool false))) (hx : ev x = .bool true) (hy : ev y = .bool true) (w : World) : (execOp ev o).run P w = .ok (.value (.bool true)) w := by
  unfold execOp; rw [ho]; simp [hx, hy]; go_simp
theorem ex_len {ev : Operand → Value} {o : Oper} {x : Operand} {A : Option Addr} {n c : Nat} (ho : o.op = .call { callee := .builtin .len, args := #[x], argTypes := #[28] }) (hx : ev x = .slice A n c) (w : World) : (execOp ev o).run Try.prog w = .ok (.value (.int .i64 n)) w := by
  unfold execOp; rw [ho]; simp [hx]; go_simp
theorem ex_index {ev : Operand → Value} {o : Oper} {x y : Operand} {ad : Addr} {n c i : Nat} (ho : o.op = .indexAddr 38 x y) (hx : ev x = .slice (some ad) n c) (hy : ev y = .int .i64 (i : Int)) (hi : (i : Int) < (n : Int)) (w : World) : (execOp ev o).run Try.prog w = .ok (.value (.pointer (some (ad.add (i * 3))))) w := by
  unfold execOp; rw [ho]; simp [hx, hy]; go_simp
theorem ex_load {ev : Operand → Value} {o : Oper} {x : Operand} {ad : Addr} {u v y : Value} (ho : o.op = .load 36 x) (hx : ev x = .pointer (some ad)) (w : World) (h0 : w.cell? ad = some u) (h1 : w.cell? ⟨ad.block, ad.off + 1, none⟩ = some v) (h2 : w.cell? ⟨ad.block, ad.off + 2, none⟩ = some y) : (execOp ev o).run Try.prog w = .ok (.value (.agg #[u, v, y])) w := by
  unfold execOp; rw [ho]; simp [hx]; go_simp
end Go.Proofs.Ytobljkhidgbeoaa.Oct
