import Derived.Test.YtcpkfkcemaihfaaSessU
import Derived.Test.YtcpkfkcemaihfaaSessT
/- Two ends, what was put in, what came out, and the frames on their way, in memory: each block has a label. -/
namespace Go.Proofs.Ytcpkfkcemaihfaa.Oct
open Go.RowKit Go.Proofs.YtcpkfkcemaihfaaW.PrintWords Go.Proofs.Ytcpkfkcemaihfaa.M
set_option linter.unusedVariables false
set_option linter.unusedSimpArgs false
/-- bytes that nobody changes: the argument's, or a block labelled 9 -/
def DT (w W : World) (o : Nat → Nat) (A : Option Addr) (c : Nat) (l : List Int) : Prop := Kd.C (Kd.int .u8) w A l.length l ∨ (QB W 0 (.slice A l.length c) l ∧ ∀ k, (Value.slice A l.length c).ownBlock = some k → o k = 9)
theorem DT.reads {w W : World} {o : Nat → Nat} {A : Option Addr} {c : Nat} {l : List Int} (h : DT w W o A c l) (hW : Below w.heap.size w W) : Kd.C (Kd.int .u8) W A l.length l := by
  rcases h with h | ⟨h, _⟩
  · exact Kd.C_below h hW
  · obtain ⟨B, d, e, _, _, hC⟩ := h.form
    injection e with e1 _ _
    rw [e1]
    exact hC
theorem DT.step {w W W' : World} {o o' : Nat → Nat} {A : Option Addr} {c : Nat} {l : List Int} (h : DT w W o A c l) (ho : ∀ k, k < W.heap.size → o' k = o k) (hb : ∀ k, k < W.heap.size → o k = 9 → W'.heap[k]? = W.heap[k]?) : DT w W' o' A c l := by
  rcases h with h | ⟨h, h2⟩
  · exact .inl h
  · exact .inr ⟨h.move (fun k e => hb k (h.block e).2 (h2 k e)), fun k e => by rw [ho k (h.block e).2]; exact h2 k e⟩
/-- a row of texts whose block has the label L -/
def TLab (w W : World) (o : Nat → Nat) (L : Nat) (v : Value) (ls : Bag) : Prop :=
  ∃ vs : List Value, OwnAt W 0 38 1 v ls.length vs ∧ (∀ k, v.ownBlock = some k → o k = L) ∧ ∀ (j : Nat) (l : List Int), ls[j]? = some l → ∃ A c, vs[j]? = some (.slice A l.length c) ∧ DT w W o A c l
theorem TLab.step {w W W' : World} {o o' : Nat → Nat} {L : Nat} {v : Value} {ls : Bag} (h : TLab w W o L v ls) (ho : ∀ k, k < W.heap.size → o' k = o k) (hb : ∀ k, k < W.heap.size → o k = L ∨ o k = 9 → W'.heap[k]? = W.heap[k]?) : TLab w W' o' L v ls := by
  obtain ⟨vs, h1, h2, h3⟩ := h
  refine ⟨vs, h1.move (fun k e => hb k (h1.block e).2 (.inl (h2 k e))), fun k e => by rw [ho k (h1.block e).2]; exact h2 k e, fun j l hj => ?_⟩
  obtain ⟨A, c, e, hd⟩ := h3 j l hj
  exact ⟨A, c, e, hd.step ho (fun k hk e => hb k hk (.inr e))⟩
theorem TLab.form {w W : World} {o : Nat → Nat} {L : Nat} {v : Value} {ls : Bag} (h : TLab w W o L v ls) : ∃ A c, v = .slice A ls.length c ∧ ls.length ≤ c ∧ c ≤ maxLen := by
  obtain ⟨vs, h1, _⟩ := h
  exact h1.form
theorem TLab.get {w W : World} {o : Nat → Nat} {L n c : Nat} {A : Option Addr} {ls : Bag} (h : TLab w W o L (.slice A n c) ls) {k : Nat} (hk : k < ls.length) :
    ∃ g off Au du, A = some ⟨g, off, none⟩ ∧ W.cell? ⟨g, off + k, none⟩ = some (.slice Au (ls.getD k []).length du) ∧ DT w W o Au du (ls.getD k []) := by
  obtain ⟨vs, h1, h2, h3⟩ := h
  have hbk : ls[k]? = some (ls.getD k []) := by rw [List.getD_eq_getElem?_getD, List.getElem?_eq_getElem hk]; rfl
  obtain ⟨Au, du, e, hd⟩ := h3 k _ hbk
  rcases h1.2 with ⟨_, h0⟩ | ⟨g, off, cap, cur, e', _⟩
  · omega
  · injection e' with e1 e2 e3
    subst e1 e2
    exact ⟨g, off, Au, du, rfl, h1.at e, hd⟩
/-- frames in a row whose block has the label L -/
def FLab (W : World) (o : Nat → Nat) (L : Nat) (v : Value) (ls : List FR) : Prop :=
  ∃ vs : List Value, OwnAt W 0 42 4 v ls.length vs ∧ (∀ k, v.ownBlock = some k → o k = L) ∧ ∀ (j : Nat) (f : FR), ls[j]? = some f → vs[4 * j]? = some (.int .u32 f.s) ∧ vs[4 * j + 1]? = some (.int .i64 f.q) ∧ vs[4 * j + 2]? = some (.int .i64 f.k) ∧ ∃ u, vs[4 * j + 3]? = some u ∧ QB W 0 u f.d ∧ ∀ k, u.ownBlock = some k → o k = 9
theorem FLab.step {W W' : World} {o o' : Nat → Nat} {L : Nat} {v : Value} {ls : List FR} (h : FLab W o L v ls) (ho : ∀ k, k < W.heap.size → o' k = o k) (hb : ∀ k, k < W.heap.size → o k = L ∨ o k = 9 → W'.heap[k]? = W.heap[k]?) : FLab W' o' L v ls := by
  obtain ⟨vs, h1, h2, h3⟩ := h
  refine ⟨vs, h1.move (fun k e => hb k (h1.block e).2 (.inl (h2 k e))), fun k e => by rw [ho k (h1.block e).2]; exact h2 k e, fun j f hj => ?_⟩
  obtain ⟨e1, e2, e3, u, e4, hq, hu⟩ := h3 j f hj
  exact ⟨e1, e2, e3, u, e4, hq.move (fun k e => hb k (hq.block e).2 (.inr (hu k e))), fun k e => by rw [ho k (hq.block e).2]; exact hu k e⟩
theorem FLab.form {W : World} {o : Nat → Nat} {L : Nat} {v : Value} {ls : List FR} (h : FLab W o L v ls) : ∃ A c, v = .slice A ls.length c ∧ ls.length ≤ c ∧ c ≤ maxLen := by
  obtain ⟨vs, h1, _⟩ := h
  rcases h1.2 with ⟨e, h0⟩ | ⟨g, off, cap, cur, e, _, _, hc, hm, _⟩
  · exact ⟨none, 0, by rw [e, h0], by omega, by simp [maxLen]⟩
  · exact ⟨_, _, e, hc, hm⟩
/-- a frame of the row, where it lies -/
theorem FLab.get {W : World} {o : Nat → Nat} {L n c : Nat} {A : Option Addr} {ls : List FR} (h : FLab W o L (.slice A n c) ls) {j : Nat} (hj : j < ls.length) :
    ∃ ad f Au du, A = some ad ∧ ls[j]? = some f ∧ W.cell? (ad.add (j * 4)) = some (.int .u32 f.s) ∧ W.cell? ⟨(ad.add (j * 4)).block, (ad.add (j * 4)).off + 1, none⟩ = some (.int .i64 f.q) ∧ W.cell? ⟨(ad.add (j * 4)).block, (ad.add (j * 4)).off + 2, none⟩ = some (.int .i64 f.k) ∧ W.cell? ⟨(ad.add (j * 4)).block, (ad.add (j * 4)).off + 3, none⟩ = some (.slice Au f.d.length du) ∧ QB W 0 (.slice Au f.d.length du) f.d ∧ ∀ k, (Value.slice Au f.d.length du).ownBlock = some k → o k = 9 := by
  obtain ⟨vs, h1, h2, h3⟩ := h
  have hjf := List.getElem?_eq_getElem hj
  obtain ⟨e1, e2, e3, u, e4, ho, hu⟩ := h3 j _ hjf
  obtain ⟨Au, du, rfl, _⟩ := ho.form
  have hn : n = ls.length := by
    rcases h1.2 with ⟨e, h0⟩ | ⟨g, off, cap, cur, e, _⟩
    · omega
    · injection e
  subst hn
  obtain ⟨ad, ea, k0⟩ := OwnAt.cell h1 e1
  have hc : ∀ i u, vs[4 * j + (i + 1)]? = some u → W.cell? ⟨(ad.add (j * 4)).block, (ad.add (j * 4)).off + (i + 1), none⟩ = some u := fun i u hu => by
    obtain ⟨ad2, e, hc⟩ := OwnAt.cell h1 hu
    rw [ea] at e
    injection e with e
    rw [← e, Nat.mul_comm 4 j, add_lit9] at hc
    exact hc
  rw [Nat.mul_comm] at k0
  exact ⟨ad, ls[j], Au, du, ea, hjf, k0, hc 0 _ e2, hc 1 _ e3, hc 2 _ e4, ho, hu⟩
/-- labels: the ends 0 and 1, the pair 2, the rows of texts 3 to 6, the rows of frames 7 and 8, what nobody changes 9 -/
structure PV (w W : World) (p : Nat) (o : Nat → Nat) (st : Ps) (a : Nat → Nat) (vt vm : Nat → Value) : Prop where
  cells : W.heap[p]? = some (.cells #[.pointer (some ⟨a 0, 0, none⟩), .pointer (some ⟨a 1, 0, none⟩), vt 0, vt 1, vt 2, vt 3, vm 0, vm 1] 35 (0, 0))
  op : o p = 2
  ends : ∀ i, i < 2 → EndAt W (a i) (st.e i) (fun k => o k = i)
  texts : ∀ r, r < 4 → TLab w W o (3 + r) (vt r) (st.tx r)
  mails : ∀ i, i < 2 → FLab W o (7 + i) (vm i) (st.mail i)
  base : ∀ k, o k < 9 → w.heap.size ≤ k
  below : Below w.heap.size w W
def PA (w W : World) (p : Nat) (o : Nat → Nat) (st : Ps) : Prop := ∃ a vt vm, PV w W p o st a vt vm
/-- new blocks get the label L -/
def rl (W : World) (o : Nat → Nat) (L : Nat) (k : Nat) : Nat := if k < W.heap.size then o k else L
theorem rl_old {W : World} {o : Nat → Nat} {L k : Nat} (h : k < W.heap.size) : rl W o L k = o k := if_pos h
theorem rl_new {W : World} {o : Nat → Nat} {L k : Nat} (h : W.heap.size ≤ k) : rl W o L k = L := if_neg (by omega)
theorem rl_base {w W : World} {o : Nat → Nat} {L : Nat} (h : ∀ k, o k < 9 → w.heap.size ≤ k) (hs : w.heap.size ≤ W.heap.size) : ∀ k, rl W o L k < 9 → w.heap.size ≤ k := fun k hk => by
  by_cases c : k < W.heap.size
  · rw [rl_old c] at hk; exact h k hk
  · omega
theorem EndAt.lab {W W' : World} {p i : Nat} {e : Es} {o o' : Nat → Nat} (h : EndAt W p e (fun k => o k = i)) (ho : ∀ k, k < W.heap.size → o' k = o k) (hb : ∀ k, k < W.heap.size → o k = i → W'.heap[k]? = W.heap[k]?) : EndAt W' p e (fun k => o' k = i) :=
  (h.mono (G := fun k => o' k = i) (fun k hk hl => (ho k hl).trans hk)).step (fun k hk hl => hb k hl ((ho k hl).symm.trans hk))
theorem PV.below' {w W W' : World} {p : Nat} {o : Nat → Nat} {st : Ps} {a : Nat → Nat} {vt vm : Nat → Value} (h : PV w W p o st a vt vm) (hb : Below W.heap.size W W') {o' : Nat → Nat} (ho : ∀ k, k < W.heap.size → o' k = o k) (hbs : ∀ k, o' k < 9 → w.heap.size ≤ k) : PV w W' p o' st a vt vm := by
  have hpl := (Array.getElem?_eq_some_iff.1 h.cells).1
  exact ⟨(hb.block p hpl).trans h.cells, (ho p hpl).trans h.op, fun i hi => (h.ends i hi).lab ho (fun k hk _ => hb.block k hk), fun r hr => (h.texts r hr).step ho (fun k hk _ => hb.block k hk), fun i hi => (h.mails i hi).step ho (fun k hk _ => hb.block k hk), hbs, h.below.trans (hb.mono h.below.size)⟩
theorem PV.under {w W W' : World} {p : Nat} {o : Nat → Nat} {st : Ps} {a : Nat → Nat} {vt vm : Nat → Value} (h : PV w W p o st a vt vm) (hb : Below W.heap.size W W') : PV w W' p o st a vt vm := h.below' hb (fun _ _ => rfl) h.base
/-- an end's call that may make blocks of its own -/
theorem PV.end_call {w W W' : World} {p : Nat} {o o' : Nat → Nat} {st : Ps} {a : Nat → Nat} {vt vm : Nat → Value} {i : Nat} {s' : Es} (h : PV w W p o st a vt vm) (hi : i < 2) (hk : Kept W (fun k => o k = i) W') (ho : ∀ k, k < W.heap.size → o' k = o k) (hbs : ∀ k, o' k < 9 → w.heap.size ≤ k) (he : EndAt W' (a i) s' (fun k => o' k = i)) :
    PV w W' p o' { st with e := upd st.e i s' } a vt vm := by
  have hpl := (Array.getElem?_eq_some_iff.1 h.cells).1
  have hop := h.op
  refine ⟨(hk.block p hpl (by omega)).trans h.cells, (ho p hpl).trans hop, fun j hj => ?_, fun r hr => (h.texts r hr).step ho (fun k hl e => hk.block k hl (by omega)), fun j hj => (h.mails j hj).step ho (fun k hl e => hk.block k hl (by omega)), hbs, below_kept h.below hk h.below.size (fun k e => h.base k (by omega))⟩
  by_cases hji : j = i
  · subst hji
    show EndAt W' (a j) (upd st.e j s' j) _
    rw [upd_same]
    exact he
  · show EndAt W' (a j) (upd st.e i s' j) _
    rw [upd_ne _ _ hji]
    exact (h.ends j hj).lab ho (fun k hl e => hk.block k hl (by omega))
theorem pair_set {W : World} {p r : Nat} {a : Nat → Nat} {vt vm : Nat → Value} (hr : r < 4) (h : W.heap[p]? = some (.cells #[.pointer (some ⟨a 0, 0, none⟩), .pointer (some ⟨a 1, 0, none⟩), vt 0, vt 1, vt 2, vt 3, vm 0, vm 1] 35 (0, 0))) (v : Value) :
    (W.setCell ⟨p, 2 + r, none⟩ v).heap[p]? = some (.cells #[.pointer (some ⟨a 0, 0, none⟩), .pointer (some ⟨a 1, 0, none⟩), upd vt r v 0, upd vt r v 1, upd vt r v 2, upd vt r v 3, vm 0, vm 1] 35 (0, 0)) := by
  rw [heap_set v h]
  rcases (by omega : r = 0 ∨ r = 1 ∨ r = 2 ∨ r = 3) with rfl | rfl | rfl | rfl <;> rfl
theorem pair_setm {W : World} {p i : Nat} {a : Nat → Nat} {vt vm : Nat → Value} (hi : i < 2) (h : W.heap[p]? = some (.cells #[.pointer (some ⟨a 0, 0, none⟩), .pointer (some ⟨a 1, 0, none⟩), vt 0, vt 1, vt 2, vt 3, vm 0, vm 1] 35 (0, 0))) (v : Value) :
    (W.setCell ⟨p, 6 + i, none⟩ v).heap[p]? = some (.cells #[.pointer (some ⟨a 0, 0, none⟩), .pointer (some ⟨a 1, 0, none⟩), vt 0, vt 1, vt 2, vt 3, upd vm i v 0, upd vm i v 1] 35 (0, 0)) := by
  rw [heap_set v h]
  rcases (by omega : i = 0 ∨ i = 1) with rfl | rfl <;> rfl
/-- the worlds of a row's append and of the store behind it, over blocks of other labels -/
theorem row_old {W wc w1 : World} {p j : Nat} {v : Value} {x : Value} {L : Nat} {o : Nat → Nat} (hb : Below W.heap.size W wc) (hg : wc.grownBy w1 v.ownBlock) (hv : ∀ k, v.ownBlock = some k → o k = L) (hop : o p = 2) {k : Nat} (hk : k < W.heap.size) (hkl : o k ≠ L) (hk2 : o k ≠ 2) : (w1.setCell ⟨p, j, none⟩ x).heap[k]? = W.heap[k]? := by
  rw [Below.heap_setCell w1 ⟨p, j, none⟩ x k (fun e => hk2 (by rw [show k = p from e]; exact hop)), hg.block k (Nat.lt_of_lt_of_le hk hb.size) (fun e => hkl (hv k e.symm)), hb.block k hk]
/-- a text more in a row -/
theorem PV.text {w W wc w1 : World} {p : Nat} {o : Nat → Nat} {st : Ps} {a : Nat → Nat} {vt vm : Nat → Value} {r : Nat} {vs : List Value} {A : Option Addr} {c : Nat} {l : List Int} {v1 : Value} (h : PV w W p o st a vt vm) (hr : r < 4) (hvs : OwnAt W 0 38 1 (vt r) (st.tx r).length vs)
    (hes : ∀ (j : Nat) (l : List Int), (st.tx r)[j]? = some l → ∃ A c, vs[j]? = some (.slice A l.length c) ∧ DT w W o A c l) (hd : DT w W o A c l) (hb : Below W.heap.size W wc)
    (h1 : OwnAt w1 0 38 1 v1 ((st.tx r).length + 1) (vs ++ [.slice A l.length c])) (hg : wc.grownBy w1 (vt r).ownBlock) (hn : v1.ownBlock = (vt r).ownBlock ∨ ∃ b, v1.ownBlock = some b ∧ wc.heap.size ≤ b) :
    PV w (w1.setCell ⟨p, 2 + r, none⟩ v1) p (rl W o (3 + r)) { st with tx := upd st.tx r (st.tx r ++ [l]) } a (upd vt r v1) vm := by
  obtain ⟨vs', h1', hlab, _⟩ := h.texts r hr
  have hpl := (Array.getElem?_eq_some_iff.1 h.cells).1
  have hop := h.op
  have ho : ∀ k, k < W.heap.size → rl W o (3 + r) k = o k := fun k hk => rl_old hk
  have hold : ∀ k, k < W.heap.size → o k ≠ 3 + r → o k ≠ 2 → (w1.setCell ⟨p, 2 + r, none⟩ v1).heap[k]? = W.heap[k]? := fun k hk => row_old hb hg hlab hop hk
  have hpc : w1.heap[p]? = W.heap[p]? := (hg.block p (Nat.lt_of_lt_of_le hpl hb.size) (fun e => by have := hlab p e.symm; omega)).trans (hb.block p hpl)
  have hs1 : W.heap.size ≤ (w1.setCell ⟨p, 2 + r, none⟩ v1).heap.size := by simp only [World.setCell, Array.size_modify]; exact Nat.le_trans hb.size hg.size
  have hdt : ∀ {A : Option Addr} {c : Nat} {l : List Int}, DT w W o A c l → DT w (w1.setCell ⟨p, 2 + r, none⟩ v1) (rl W o (3 + r)) A c l := fun h => h.step ho (fun k hk e => hold k hk (by omega) (by omega))
  refine ⟨pair_set hr (hpc.trans h.cells) v1, (ho p hpl).trans hop, fun i hi => (h.ends i hi).lab ho (fun k hk e => hold k hk (by omega) (by omega)), fun q hq => ?_, fun i hi => (h.mails i hi).step ho (fun k hk e => hold k hk (by omega) (by omega)), rl_base h.base h.below.size, ?_⟩
  · by_cases hqr : q = r
    · subst hqr
      show TLab w _ _ _ (upd vt q v1 q) (upd st.tx q (st.tx q ++ [l]) q)
      rw [upd_same, upd_same]
      refine ⟨vs ++ [.slice A l.length c], ?_, fun k e => ?_, fun j l' hj => ?_⟩
      · rw [List.length_append]
        refine h1.move (fun k e => Below.heap_setCell w1 ⟨p, 2 + q, none⟩ v1 k (fun e2 => ?_))
        exact h1.ne e (hpc.trans h.cells) (by decide) e2
      · rcases hn with hn | ⟨b, hn, hb'⟩
        · rw [hn] at e
          rw [rl_old (hvs.block e).2]
          exact hlab k e
        · rw [hn] at e
          injection e with e
          subst e
          exact rl_new (Nat.le_trans hb.size hb')
      · have hvl : vs.length = (st.tx q).length := by have := hvs.1; omega
        rcases Nat.lt_or_ge j (st.tx q).length with hlt | hge
        · rw [List.getElem?_append_left hlt] at hj
          obtain ⟨A', c', e, hd'⟩ := hes j l' hj
          exact ⟨A', c', by rw [List.getElem?_append_left (by omega)]; exact e, hdt hd'⟩
        · have hjl : j = (st.tx q).length := by have := (List.getElem?_eq_some_iff.1 hj).1; simp at this; omega
          subst hjl
          rw [List.getElem?_append_right (Nat.le_refl _), Nat.sub_self] at hj
          obtain rfl : l' = l := by simpa using hj.symm
          exact ⟨A, c, by rw [List.getElem?_append_right (by omega), hvl, Nat.sub_self]; rfl, hdt hd⟩
    · show TLab w _ _ _ (upd vt r v1 q) (upd st.tx r (st.tx r ++ [l]) q)
      rw [upd_ne _ _ hqr, upd_ne _ _ hqr]
      exact (h.texts q hq).step ho (fun k hk e => hold k hk (by omega) (by omega))
  · have g := grown_of_below hb none
    have hs := grown_set w1 p (2 + r) v1
    refine h.below.trans ⟨hs.os.trans (hg.os.trans g.os), hs.tape.trans (hg.tape.trans g.tape), hs.output.trans (hg.output.trans g.output), hs1, fun k hk => ?_⟩
    refine hold k (Nat.lt_of_lt_of_le hk h.below.size) (fun e => ?_) (fun e => ?_) <;> (have := h.base k (by omega); omega)
/-- another row of frames -/
theorem PV.frames {w W wc w1 : World} {p : Nat} {o : Nat → Nat} {st : Ps} {a : Nat → Nat} {vt vm : Nat → Value} {i : Nat} {vs : List Value} {ls : List FR} {v1 : Value} (h : PV w W p o st a vt vm) (hi : i < 2) (hb : Below W.heap.size W wc)
    (h1 : OwnAt w1 0 42 4 v1 ls.length vs) (hg : wc.grownBy w1 (vm i).ownBlock) (hn : v1.ownBlock = (vm i).ownBlock ∨ ∃ b, v1.ownBlock = some b ∧ wc.heap.size ≤ b)
    (hes : ∀ (j : Nat) (f : FR), ls[j]? = some f → vs[4 * j]? = some (.int .u32 f.s) ∧ vs[4 * j + 1]? = some (.int .i64 f.q) ∧ vs[4 * j + 2]? = some (.int .i64 f.k) ∧ ∃ u, vs[4 * j + 3]? = some u ∧ QB W 0 u f.d ∧ ∀ k, u.ownBlock = some k → o k = 9) :
    PV w (w1.setCell ⟨p, 6 + i, none⟩ v1) p (rl W o (7 + i)) { st with mail := upd st.mail i ls } a vt (upd vm i v1) := by
  obtain ⟨vs', h1', hlab, _⟩ := h.mails i hi
  have hpl := (Array.getElem?_eq_some_iff.1 h.cells).1
  have hop := h.op
  have ho : ∀ k, k < W.heap.size → rl W o (7 + i) k = o k := fun k hk => rl_old hk
  have hold : ∀ k, k < W.heap.size → o k ≠ 7 + i → o k ≠ 2 → (w1.setCell ⟨p, 6 + i, none⟩ v1).heap[k]? = W.heap[k]? := fun k hk => row_old hb hg hlab hop hk
  have hpc : w1.heap[p]? = W.heap[p]? := (hg.block p (Nat.lt_of_lt_of_le hpl hb.size) (fun e => by have := hlab p e.symm; omega)).trans (hb.block p hpl)
  have hs1 : W.heap.size ≤ (w1.setCell ⟨p, 6 + i, none⟩ v1).heap.size := by simp only [World.setCell, Array.size_modify]; exact Nat.le_trans hb.size hg.size
  refine ⟨pair_setm hi (hpc.trans h.cells) v1, (ho p hpl).trans hop, fun j hj => (h.ends j hj).lab ho (fun k hk e => hold k hk (by omega) (by omega)), fun r hr => (h.texts r hr).step ho (fun k hk e => hold k hk (by omega) (by omega)), fun q hq => ?_, rl_base h.base h.below.size, ?_⟩
  · by_cases hqr : q = i
    · subst hqr
      show FLab _ _ _ (upd vm q v1 q) (upd st.mail q ls q)
      rw [upd_same, upd_same]
      refine ⟨vs, ?_, fun k e => ?_, fun j f hj => ?_⟩
      · refine h1.move (fun k e => Below.heap_setCell w1 ⟨p, 6 + q, none⟩ v1 k (fun e2 => ?_))
        exact h1.ne e (hpc.trans h.cells) (by decide) e2
      · rcases hn with hn | ⟨b, hn, hb'⟩
        · rw [hn] at e
          rw [rl_old (h1'.block e).2]
          exact hlab k e
        · rw [hn] at e
          injection e with e
          subst e
          exact rl_new (Nat.le_trans hb.size hb')
      · obtain ⟨e1, e2, e3, u, e4, hq', hu⟩ := hes j f hj
        exact ⟨e1, e2, e3, u, e4, hq'.move (fun k e => hold k (hq'.block e).2 (by have := hu k e; omega) (by have := hu k e; omega)), fun k e => by rw [ho k (hq'.block e).2]; exact hu k e⟩
    · show FLab _ _ _ (upd vm i v1 q) (upd st.mail i ls q)
      rw [upd_ne _ _ hqr, upd_ne _ _ hqr]
      exact (h.mails q hq).step ho (fun k hk e => hold k hk (by omega) (by omega))
  · have g := grown_of_below hb none
    have hs := grown_set w1 p (6 + i) v1
    refine h.below.trans ⟨hs.os.trans (hg.os.trans g.os), hs.tape.trans (hg.tape.trans g.tape), hs.output.trans (hg.output.trans g.output), hs1, fun k hk => ?_⟩
    refine hold k (Nat.lt_of_lt_of_le hk h.below.size) (fun e => ?_) (fun e => ?_) <;> (have := h.base k (by omega); omega)
/-- the pair's fields -/
theorem PV.fields {w W : World} {p : Nat} {o : Nat → Nat} {st : Ps} {a : Nat → Nat} {vt vm : Nat → Value} (h : PV w W p o st a vt vm) :
    (∀ i, i < 2 → W.cell? ⟨p, i, none⟩ = some (.pointer (some ⟨a i, 0, none⟩))) ∧ (∀ r, r < 4 → W.cell? ⟨p, 2 + r, none⟩ = some (vt r) ∧ W.frozen? ⟨p, 2 + r, none⟩ = false) ∧ ∀ i, i < 2 → W.cell? ⟨p, 6 + i, none⟩ = some (vm i) ∧ W.frozen? ⟨p, 6 + i, none⟩ = false := by
  have hc := h.cells
  refine ⟨fun i hi => ?_, fun r hr => ?_, fun i hi => ?_⟩
  · rcases (by omega : i = 0 ∨ i = 1) with rfl | rfl <;> simp [World.cell?, hc]
  · rcases (by omega : r = 0 ∨ r = 1 ∨ r = 2 ∨ r = 3) with rfl | rfl | rfl | rfl <;> simp [World.cell?, World.frozen?, hc]
  · rcases (by omega : i = 0 ∨ i = 1) with rfl | rfl <;> simp [World.cell?, World.frozen?, hc]
end Go.Proofs.Ytcpkfkcemaihfaa.Oct
