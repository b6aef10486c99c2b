import Derived.Deep.RegionHeldLaw
import Derived.Test.YtobljkhidgbeoaaZ07
import Derived.Test.YtobljkhidgbeoaaZ08
/- The store of keys: rows of changes; at. -/
namespace Go.Proofs.Ytobljkhidgbeoaa.Oct
open Go.RowKit Go.Proofs.YtobljkhidgbeoaaW.PrintWords Go.Proofs.Ytobljkhidgbeoaa.M
set_option linter.unusedVariables false
set_option linter.unusedSimpArgs false
theorem add_more (ad : Addr) (i j : Nat) : (⟨(ad.add i).block, (ad.add i).off + (j + 1), none⟩ : Addr) = ad.add (i + (j + 1)) := by
  unfold Addr.add
  rw [if_neg (by omega : ¬ i + (j + 1) = 0)]
  split
  · rename_i h; rw [h]; simp
  · simp; omega
def ch0 : Ch := ⟨0, 0, 0⟩
/-- a row of changes that is read -/
def ChAt (W : World) (A : Option Addr) (l : List Ch) : Prop := ∀ k, k < l.length → ∃ ad, A = some ad ∧ W.cell? (ad.add (k * 3)) = some (.int .i64 (l.getD k ch0).kind) ∧ W.cell? ⟨(ad.add (k * 3)).block, (ad.add (k * 3)).off + 1, none⟩ = some (.int .i64 (l.getD k ch0).key) ∧ W.cell? ⟨(ad.add (k * 3)).block, (ad.add (k * 3)).off + 2, none⟩ = some (.int .u64 (l.getD k ch0).val)
theorem ChAt.move {W W' : World} {A : Option Addr} {l : List Ch} (h : ChAt W A l) (hb : ∀ ad, A = some ad → ad.block < W.heap.size → W'.heap[ad.block]? = W.heap[ad.block]?) : ChAt W' A l := fun k hk => by
  obtain ⟨ad, e, h0, h1, h2⟩ := h k hk
  have hbk : (ad.add (k * 3)).block = ad.block := by unfold Addr.add; split <;> rfl
  have hlt := World.block_lt_of_cell? W _ h0
  rw [hbk] at hlt
  have hq := hb ad e hlt
  refine ⟨ad, e, ?_, ?_, ?_⟩
  · rw [← h0]; exact World.cell?_of_block (by rw [hbk]; exact hq)
  · rw [← h1]; exact World.cell?_of_block (by show W'.heap[(ad.add (k * 3)).block]? = _; rw [hbk]; exact hq)
  · rw [← h2]; exact World.cell?_of_block (by show W'.heap[(ad.add (k * 3)).block]? = _; rw [hbk]; exact hq)
theorem ChAt.below {W W' : World} {A : Option Addr} {l : List Ch} (h : ChAt W A l) (hb : Below W.heap.size W W') : ChAt W' A l := h.move (fun ad _ hl => hb.block _ hl)
theorem chCells_get (l : List Ch) (k : Nat) (hk : k < l.length) : (chCells l)[k * 3]? = some (.int .i64 (l.getD k ch0).kind) ∧ (chCells l)[k * 3 + 1]? = some (.int .i64 (l.getD k ch0).key) ∧ (chCells l)[k * 3 + 2]? = some (.int .u64 (l.getD k ch0).val) := by
  induction l generalizing k with
  | nil => simp at hk
  | cons c l ih =>
    have e : chCells (c :: l) = [.int .i64 c.kind, .int .i64 c.key, .int .u64 c.val] ++ chCells l := rfl
    rw [e]
    cases k with
    | zero => exact ⟨rfl, rfl, rfl⟩
    | succ k =>
      have h := ih k (by simpa using hk)
      refine ⟨?_, ?_, ?_⟩
      · rw [List.getElem?_append_right (by simp; omega)]
        have : (k + 1) * 3 - 3 = k * 3 := by omega
        simp only [List.length_cons, List.length_nil]
        rw [this]; exact h.1
      · rw [List.getElem?_append_right (by simp; omega)]
        have : (k + 1) * 3 + 1 - 3 = k * 3 + 1 := by omega
        simp only [List.length_cons, List.length_nil]
        rw [this]; exact h.2.1
      · rw [List.getElem?_append_right (by simp; omega)]
        have : (k + 1) * 3 + 2 - 3 = k * 3 + 2 := by omega
        simp only [List.length_cons, List.length_nil]
        rw [this]; exact h.2.2
theorem chCells_len (l : List Ch) : (chCells l).length = l.length * 3 := by
  induction l with
  | nil => rfl
  | cons c l ih => show ([_, _, _] ++ chCells l).length = _; rw [List.length_append, ih]; simp; omega
theorem chRow_form {v : Value} {l : List Ch} {W : World} {F : Nat → Prop} (h : (chRow v l).P W F) : ∃ A c, v = .slice A l.length c ∧ l.length ≤ c ∧ c ≤ maxLen ∧ ChAt W A l := by
  have h0 := h.1
  rcases h0.2 with ⟨rfl, hn⟩ | ⟨g, off, cap, cur, rfl, hb, hh, hc, hm, h6, h7⟩
  · exact ⟨none, 0, by rw [hn], by omega, by simp [maxLen], fun k hk => by omega⟩
  · refine ⟨_, cap, rfl, hc, hm, fun k hk => ?_⟩
    obtain ⟨g0, g1, g2⟩ := chCells_get l k hk
    obtain ⟨ad, e, k0⟩ := OwnAt.cell h0 g0
    obtain ⟨ad1, e1, k1⟩ := OwnAt.cell h0 g1
    obtain ⟨ad2, e2, k2⟩ := OwnAt.cell h0 g2
    rw [e] at e1 e2
    injection e1 with e1
    injection e2 with e2
    subst e1 e2
    exact ⟨ad, e, k0, by rw [add_more]; exact k1, by rw [add_more]; exact k2⟩
def chIx (l : List Ch) (key : Int) : Int := match chAt l key with
  | some i => (i : Int)
  | none => -1
theorem at1_calls (w : World) (c : Ch) (key : Int) (b0 : Nat) (hb : w.heap[b0]? = some (.cells #[.int .i64 key] 3 (0, 0))) :
    Calls Try.prog 85 #[.agg #[.int .i64 c.kind, .int .i64 c.key, .int .u64 c.val], .pointer (some ⟨b0, 0, none⟩)] w fun e w' => e = .returned (.bool (c.key == key)) ∧ Below w.heap.size w w' := by
  have hb1 := (blk_keep hb (below_alloc (Below.refl w.heap.size w) (.cells #[.int .i64 c.kind, .int .i64 c.key, .int .u64 c.val] 94)))
  obtain ⟨x0, _⟩ := heap1 hb1
  have HB := Aside0.mk (below_alloc (Below.refl w.heap.size w) (.cells #[.int .i64 c.kind, .int .i64 c.key, .int .u64 c.val] 94))
  clear hb hb1
  obtain ⟨kd, ky, vl⟩ := c
  go_enter Try.func85, Try.ntmps85
  go_wp2
  go_ret
  exact ⟨rfl, HB.out⟩
theorem chAt_take {l : List Ch} {key : Int} {k : Nat} (hk : k < l.length) (h : ∀ j, j < k → ((l.getD j ch0).key == key) = false) (hh : ((l.getD k ch0).key == key) = true) : chAt l key = some k := by
  unfold chAt
  rw [List.findIdx?_eq_some_iff_getElem]
  refine ⟨hk, by simpa [List.getD_eq_getElem?_getD, List.getElem?_eq_getElem hk] using hh, fun j hj => ?_⟩
  have := h j hj
  simpa [List.getD_eq_getElem?_getD, List.getElem?_eq_getElem (Nat.lt_trans hj hk)] using this
theorem chAt_no {l : List Ch} {key : Int} (h : ∀ j, j < l.length → ((l.getD j ch0).key == key) = false) : chAt l key = none := by
  unfold chAt
  rw [List.findIdx?_eq_none_iff]
  intro x hx
  obtain ⟨j, hj, rfl⟩ := List.getElem_of_mem hx
  have := h j hj
  simpa [List.getD_eq_getElem?_getD, List.getElem?_eq_getElem hj] using this
set_option maxHeartbeats 1000000 in
theorem chIndex_calls (w : World) (l : List Ch) (A : Option Addr) (c : Nat) (key : Int) (b0 : Nat) (h : ChAt w A l) (hll : l.length ≤ maxLen) (hb : w.heap[b0]? = some (.cells #[.int .i64 key] 3 (0, 0))) :
    Calls Try.prog 84 #[.slice A l.length c, .func (.func 85) #[] #[.pointer (some ⟨b0, 0, none⟩)]] w fun e w' => e = .returned (.int .i64 (chIx l key)) ∧ Below w.heap.size w w' := by
  have HL := Aside0.mk h
  have HB0 := Aside0.mk hb
  unfold maxLen at hll
  clear h hb
  go_enter Try.func84, Try.ntmps84
  go_wp2_with fail
  go_loopw [5, 8] (fun _ v8 wr => ∃ (k : Nat), k ≤ l.length ∧ v8 = .int .i64 k ∧ Aside0 (Below w.heap.size w wr) ∧ Aside0 (∀ j, j < k → ((l.getD j ch0).key == key) = false)) (fun _ v _ => l.length - (intOf v).toNat)
  case atStart => exact ⟨0, by omega, rfl, ⟨Below.refl _ _⟩, ⟨fun j hj => by omega⟩⟩
  case round =>
    obtain ⟨k, hk, rfl, HB, HS⟩ := hrel
    by_cases hlt : k < l.length
    · obtain ⟨ad, rfl, k0, k1, k2⟩ := (HL.out.below HB.out) k hlt
      have HC := Aside0.mk (at1_calls wr (l.getD k ch0) key b0 (blk_keep HB0.out HB.out))
      obtain ⟨x, hx⟩ : ∃ x, x = l.getD k ch0 := ⟨_, rfl⟩
      rw [← hx] at k0 k1 k2 HC
      have HX := Aside0.mk hx
      clear hx
      have hlt' : (k : Int) < (l.length : Int) := by omega
      go_wp2_with fail
      refine HC.out.mono ?_
      rintro e w1 ⟨rfl, hb1⟩
      have HB1 := Aside0.mk (HB.out.trans (hb1.mono HB.out.size))
      clear hb1
      cases hd : (x.key == key) with
      | true =>
        have HE : Aside0 (chIx l key = (k : Int)) := ⟨by unfold chIx; rw [chAt_take hlt HS.out (by rw [← HX.out]; exact hd)]⟩
        go_wp2_with fail
        go_ret
        rw [HE.out]
        exact ⟨rfl, HB1.out⟩
      | false =>
        have HS2 : Aside0 (∀ j, j < k + 1 → ((l.getD j ch0).key == key) = false) := ⟨fun j hj => by
          by_cases hjk : j = k
          · rw [hjk, ← HX.out]; exact hd
          · exact HS.out j (by omega)⟩
        go_wp2_with fail
        exact ⟨⟨k + 1, by omega, by go_num, HB1, HS2⟩, by simp [intOf]; omega⟩
    · obtain rfl : k = l.length := by omega
      have HE : Aside0 (chIx l key = -1) := ⟨by unfold chIx; rw [chAt_no HS.out]⟩
      have hlt' : ¬ (l.length : Int) < (l.length : Int) := by omega
      go_wp2_with fail
      go_ret
      rw [HE.out]
      exact ⟨rfl, HB.out⟩
theorem at_calls (w : World) (q : Nat) (p : Value) (l : List Ch) (A : Option Addr) (c : Nat) (key : Int) (h : ChAt w A l) (hll : l.length ≤ maxLen) (hq : w.heap[q]? = some (.cells #[.slice A l.length c, p] 130 (0, 0))) :
    Calls Try.prog 79 #[.pointer (some ⟨q, 0, none⟩), .int .i64 key] w fun e w' => e = .returned (.int .i64 (chIx l key)) ∧ Below w.heap.size w w' := by
  have HB1 := Aside0.mk (below_alloc (Below.refl w.heap.size w) (.cells #[.int .i64 key] 3))
  obtain ⟨x0, _, _, _⟩ := heap2 (blk_keep hq HB1.out)
  have HC := Aside0.mk (chIndex_calls _ l A c key w.heap.size (h.below HB1.out) hll (heap_alloc_new w (.cells #[.int .i64 key] 3)))
  obtain ⟨n, hn⟩ : ∃ n, n = l.length := ⟨_, rfl⟩
  rw [← hn] at x0 HC
  clear h hq hll hn
  go_enter Try.func79, Try.ntmps79
  go_wp2_with fail
  refine HC.out.mono ?_
  rintro e w1 ⟨rfl, hb1⟩
  have HB2 := Aside0.mk (HB1.out.trans (hb1.mono HB1.out.size))
  clear hb1
  go_wp2_with fail
  go_ret
  exact ⟨rfl, HB2.out⟩
end Go.Proofs.Ytobljkhidgbeoaa.Oct
/- APPEND of one element to a row of the call's own. -/
namespace Go.Proofs.Ytobljkhidgbeoaa.Oct
open Go.RowKit Go.Proofs.YtobljkhidgbeoaaW.PrintWords Go.Proofs.Ytobljkhidgbeoaa.M
set_option linter.unusedVariables false
set_option linter.unusedSimpArgs false
theorem below_drawN (W : World) (n : Nat) : Below W.heap.size W (W.drewN n) := ⟨rfl, rfl, rfl, Nat.le_refl _, fun _ _ => rfl⟩
section
variable {P : Program} {ops : Array Oper} {rest : List Oper} {o : Oper} {a : Act} {Q : Exit → Act → World → Prop} {K : Act → World → Prop} {E : Prop}
theorem one_news {W : World} {gb : Nat} {news : List Value} {tt : TypeId} (hb : W.heap[gb]? = some (.cells news.toArray tt (0, 0))) : 0 < 1 → ∃ a, some (⟨gb, 0, none⟩ : Addr) = some a ∧ ∀ j u, news[j]? = some u → W.cell? (a.add j) = some u := fun _ => ⟨_, rfl, fun j u hu => by
  rw [show (⟨gb, 0, none⟩ : Addr).add j = ⟨gb, j, none⟩ from add_plain gb j, cell_of_row W gb j _ tt (0, 0) hb]
  simpa using hu⟩
/-- as one step of a region that draws its order -/
theorem step_app1 {W : World} (hgd : o.guard = none) (s x : Operand) (t e : TypeId) (z : Value) (size bytes : Nat) (hinfo : (P.info? e).map (fun i => (i.zero, i.size, i.bytes)) = some (some z, size, bytes)) (ht : P.underlying t = some (.slice e)) (hzs : z.cells.size = size) (hsz : 0 < size)
    (ho : o.op = .call { callee := .builtin .append, args := #[s, x], argTypes := #[t, t] }) (v : Value) (n : Nat) (vs news : List Value) (gb : Nat) (tt : TypeId) (hs : a.eval s = v) (hx : a.eval x = .slice (some ⟨gb, 0, none⟩) 1 1)
    (HO : OwnAt W 0 e size v n vs) (hb : W.heap[gb]? = some (.cells news.toArray tt (0, 0))) (hnl : news.length = size) (h1 : ∀ u ∈ news, u.oneCell' = true) (hl : n ≤ 10000000) (hby : bytes ≤ 1000)
    (h : ∀ v1 w1, OwnAt w1 0 e size v1 (n + 1) (vs ++ news) → W.grownBy w1 v.ownBlock → (v1.ownBlock = v.ownBlock ∨ ∃ b, v1.ownBlock = some b ∧ W.heap.size ≤ b) → K (a.put o.dst v1) w1) :
    if Region.wanted o (yielded ops a.tmps) = true then Oper.wp P o a W K Q else E := by
  obtain ⟨i0, hi0, hz0, hz1, hz2⟩ := info_parts hinfo
  have hm : (n + 1) * bytes ≤ 140737488355328 := Nat.le_trans (Nat.mul_le_mul (by omega : n + 1 ≤ 10000001) hby) (by omega)
  exact step_append_at W hgd s x t ho 0 e i0 z size bytes ht hi0 hz0 hz1 hz2 hzs hsz v n vs hs HO (some ⟨gb, 0, none⟩) 1 1 news hx (by rw [hnl, Nat.one_mul]) (one_news hb) h1 (by simp only [maxLen]; omega) hm (Nat.zero_le _) h
/-- as an operation of a walk -/
theorem wp_app1 {W : World} (hgd : o.guard = none) (s x : Operand) (t e : TypeId) (z : Value) (size bytes : Nat) (hinfo : (P.info? e).map (fun i => (i.zero, i.size, i.bytes)) = some (some z, size, bytes)) (ht : P.underlying t = some (.slice e)) (hzs : z.cells.size = size) (hsz : 0 < size)
    (ho : o.op = .call { callee := .builtin .append, args := #[s, x], argTypes := #[t, t] }) (v : Value) (n : Nat) (vs news : List Value) (gb : Nat) (tt : TypeId) (hs : a.eval s = v) (hx : a.eval x = .slice (some ⟨gb, 0, none⟩) 1 1)
    (HO : OwnAt W 0 e size v n vs) (hb : W.heap[gb]? = some (.cells news.toArray tt (0, 0))) (hnl : news.length = size) (h1 : ∀ u ∈ news, u.oneCell' = true) (hl : n ≤ 10000000) (hby : bytes ≤ 1000)
    (h : ∀ v1 w1, OwnAt w1 0 e size v1 (n + 1) (vs ++ news) → W.grownBy w1 v.ownBlock → (v1.ownBlock = v.ownBlock ∨ ∃ b, v1.ownBlock = some b ∧ W.heap.size ≤ b) → wpList P ops Q rest (a.put o.dst v1) w1) :
    wpList P ops Q (o :: rest) a W := by
  obtain ⟨i0, hi0, hz0, hz1, hz2⟩ := info_parts hinfo
  have hm : (n + 1) * bytes ≤ 140737488355328 := Nat.le_trans (Nat.mul_le_mul (by omega : n + 1 ≤ 10000001) hby) (by omega)
  exact wpList_append_at W hgd s x t ho 0 e i0 z size bytes ht hi0 hz0 hz1 hz2 hzs hsz v n vs hs HO (some ⟨gb, 0, none⟩) 1 1 news hx (by rw [hnl, Nat.one_mul]) (one_news hb) h1 (by simp only [maxLen]; omega) hm (Nat.zero_le _) h
end
/-- what a block's neighbour keeps through an append -/
theorem own_other {W : World} {e t : TypeId} {size n b : Nat} {v : Value} {vs : List Value} {cs : Array Value} {l : List Part} {F : Nat → Prop} (h : Sep (row e size v n vs :: pt b (.cells cs t (0, 0)) :: l) W F) : some b ≠ v.ownBlock := fun e1 => by
  obtain ⟨F1, F2, hd, hA, hB⟩ := h.two (i := 0) (j := 1) rfl rfl (by decide)
  exact hd b (hA.2 b e1.symm) hB.1
theorem row_form {e : TypeId} {size n : Nat} {v : Value} {vs : List Value} {W : World} (h : OwnAt W 0 e size v n vs) : ∃ A c, v = .slice A n c ∧ n ≤ c ∧ c ≤ maxLen := by
  rcases h.2 with ⟨rfl, hn⟩ | ⟨g, off, cap, cur, rfl, _, _, hc, hm, _⟩
  · exact ⟨none, 0, by rw [hn], by omega, by simp [maxLen]⟩
  · exact ⟨_, cap, rfl, hc, hm⟩
/-- a row that is new -/
theorem St.new_row {w W W' : World} {F : Nat → Prop} {l : List Part} {e : TypeId} {size n : Nat} {v : Value} {vs : List Value} (h : St w F W l) (hb : Below W.heap.size W W') (ho : OwnAt W' 0 e size v n vs) (hn : ∀ k, v.ownBlock = some k → W.heap.size ≤ k) : St w F W' (row e size v n vs :: l) := by
  have h2 := h.below hb
  refine ⟨Sep.join (l1 := [row e size v n vs]) (F1 := fun k => W.heap.size ≤ k) (F2 := fun k => New w F k ∧ k < W.heap.size) (Sep.of_one ⟨ho, hn⟩) (h.1.mv hb.size (fun k hk hl => ⟨hb.block k hl, hk, hl⟩)) (fun k _ h1 h2 => by omega) (fun k _ hk => .inr (Nat.le_trans h.2.size hk)) (fun k _ hk => hk.1), h2.2⟩
/-- a part that needs no block -/
theorem Sep.free {A : Part} {l : List Part} {W : World} {F : Nat → Prop} (ha : A.P W (fun _ => False)) (h : Sep l W F) : Sep (A :: l) W F :=
  Sep.join (l1 := [A]) (F1 := fun _ => False) (Sep.of_one ha) h (fun k _ hk => hk.elim) (fun k _ hk => hk.elim) (fun k _ hk => hk)
theorem St.free {A : Part} {l : List Part} {w W : World} {F : Nat → Prop} (ha : A.P W (fun _ => False)) (h : St w F W l) : St w F W (A :: l) := ⟨h.1.free ha, h.2⟩
theorem row_nil (W : World) (F : Nat → Prop) (e : TypeId) (size : Nat) : (row e size (.slice none 0 0) 0 []).P W F := ⟨OwnAt.nil W 0 e size, fun k h => by cases h⟩
end Go.Proofs.Ytobljkhidgbeoaa.Oct
