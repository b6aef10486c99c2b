import Derived.Deep.RegionLawGrows
import Derived.Test.YtobljkhidgbeoaaZ01
/- A SLICE THAT LIES ANYWHERE IN A BLOCK OF THE CALL'S OWN: append, its front, its rest. -/
namespace Go.Proofs.Ytobljkhidgbeoaa.Oct
open Go.RowKit Go.Proofs.YtobljkhidgbeoaaW.PrintWords Go.Proofs.Ytobljkhidgbeoaa.M
set_option linter.unusedVariables false
set_option linter.unusedSimpArgs false
theorem heap_setCells (b : Nat) : ∀ (vs : List Value) (o : Nat) (W : World) (cs : Array Value) (t : TypeId), W.heap[b]? = some (.cells cs t (0, 0)) → o + vs.length ≤ cs.size →
    (W.setCells b o vs).heap[b]? = some (.cells (cs.toList.take o ++ vs ++ cs.toList.drop (o + vs.length)).toArray t (0, 0))
  | [], o, W, cs, t, h, _ => by
    simp [World.setCells, h]
  | v :: r, o, W, cs, t, h, hl => by
    simp only [List.length_cons] at hl
    have h1 := heap_setCells b r (o + 1) (W.setCell ⟨b, o, none⟩ v) (cs.setIfInBounds o v) t (heap_set v h) (by simp; omega)
    simp only [World.setCells]
    rw [h1]
    have e : (List.take (o + 1) (cs.setIfInBounds o v).toList ++ r ++ List.drop (o + 1 + r.length) (cs.setIfInBounds o v).toList) = (List.take o cs.toList ++ v :: r ++ List.drop (o + (v :: r).length) cs.toList) := by
      have e1 : (cs.setIfInBounds o v).toList = cs.toList.set o v := by simp
      have hlt : o < (cs.toList.set o v).length := by simp; omega
      rw [e1, List.take_succ_eq_append_getElem hlt]
      have e2 : (cs.toList.set o v)[o] = v := by simp
      rw [e2, List.take_set, List.set_eq_of_length_le (by simp; omega), List.drop_set_of_lt (by omega)]
      simp only [List.length_cons, List.append_assoc, List.singleton_append]
      rw [show o + 1 + r.length = o + (r.length + 1) by omega]
    rw [e]
theorem grown_setCells (W : World) (b o : Nat) (vs : List Value) : W.grownBy (W.setCells b o vs) (some b) := by
  induction vs generalizing W o with
  | nil => exact ⟨rfl, rfl, rfl, Nat.le_refl _, fun _ _ _ => rfl⟩
  | cons v r ih =>
    have h1 : W.grownBy (W.setCell ⟨b, o, none⟩ v) (some b) := ⟨rfl, rfl, rfl, by simp [World.setCell], fun k hk hne => Below.heap_setCell W ⟨b, o, none⟩ v k (fun e => hne (by rw [e]))⟩
    exact World.grownBy.trans h1 (ih _ _)

def OwnAt (W : World) (base : Nat) (e : TypeId) (size : Nat) (v : Value) (n : Nat) (xs : List Value) : Prop :=
  xs.length = n * size ∧ ((v = .slice none 0 0 ∧ n = 0) ∨
    ∃ g off cap cur, v = .slice (some ⟨g, off, none⟩) n cap ∧ base ≤ g ∧ W.heap[g]? = some (.cells cur e (0, 0)) ∧ n ≤ cap ∧ cap ≤ maxLen ∧ off + cap * size ≤ cur.size ∧ (cur.toList.drop off).take (n * size) = xs)
theorem OwnAt.of_row {W : World} {base : Nat} {e : TypeId} {size : Nat} {v : Value} {n : Nat} {xs : List Value} (h : W.ownsRow base e size v n xs) : OwnAt W base e size v n xs := by
  refine ⟨h.1, h.2.imp id ?_⟩
  rintro ⟨g, cap, cur, h1, h2, h3, h4, h5, h6, h7⟩
  exact ⟨g, 0, cap, cur, h1, h2, h3, h4, h5, by omega, by rw [List.drop_zero]; exact h7⟩
theorem OwnAt.nil (W : World) (base : Nat) (e : TypeId) (size : Nat) : OwnAt W base e size (.slice none 0 0) 0 [] := ⟨by simp, .inl ⟨rfl, rfl⟩⟩
theorem OwnAt.lower {W : World} {base base' : Nat} {e : TypeId} {size : Nat} {v : Value} {n : Nat} {xs : List Value} (h : OwnAt W base e size v n xs) (hb : base' ≤ base) : OwnAt W base' e size v n xs :=
  ⟨h.1, h.2.imp id fun ⟨g, off, cap, cur, h1, h2, h3⟩ => ⟨g, off, cap, cur, h1, Nat.le_trans hb h2, h3⟩⟩
theorem OwnAt.block {W : World} {base : Nat} {e : TypeId} {size : Nat} {v : Value} {n : Nat} {xs : List Value} (h : OwnAt W base e size v n xs) {k : Nat} (hk : v.ownBlock = some k) : base ≤ k ∧ k < W.heap.size := by
  rcases h.2 with ⟨rfl, _⟩ | ⟨g, off, cap, cur, rfl, hb, hh, _⟩
  · cases hk
  · injection hk with hk
    dsimp only at hk
    subst hk
    exact ⟨hb, (Array.getElem?_eq_some_iff.1 hh).1⟩
theorem OwnAt.move {W W' : World} {base : Nat} {e : TypeId} {size : Nat} {v : Value} {n : Nat} {xs : List Value} (h : OwnAt W base e size v n xs) (hb : ∀ k, v.ownBlock = some k → W'.heap[k]? = W.heap[k]?) : OwnAt W' base e size v n xs := by
  refine ⟨h.1, h.2.imp id ?_⟩
  rintro ⟨g, off, cap, cur, rfl, h2, h3, h4⟩
  exact ⟨g, off, cap, cur, rfl, h2, (hb g rfl).trans h3, h4⟩
theorem OwnAt.raise {W : World} {base base' : Nat} {e : TypeId} {size : Nat} {v : Value} {n : Nat} {xs : List Value} (h : OwnAt W base e size v n xs) (hb : ∀ k, v.ownBlock = some k → base' ≤ k) : OwnAt W base' e size v n xs := by
  refine ⟨h.1, h.2.imp id ?_⟩
  rintro ⟨g, off, cap, cur, rfl, h2, h3⟩
  exact ⟨g, off, cap, cur, rfl, hb g rfl, h3⟩
theorem OwnAt.cell {W : World} {base : Nat} {e : TypeId} {size : Nat} {A : Option Addr} {n c : Nat} {xs : List Value} (h : OwnAt W base e size (.slice A n c) n xs) {j : Nat} {u : Value} (hu : xs[j]? = some u) : ∃ ad, A = some ad ∧ W.cell? (ad.add j) = some u := by
  rcases h.2 with ⟨e1, h0⟩ | ⟨g, off, cap, cur, e1, h2, h3, h4, h5, h6, h7⟩
  · have := h.1
    subst h0
    have hx : xs = [] := List.eq_nil_of_length_eq_zero (by simpa using this)
    rw [hx] at hu
    cases hu
  · injection e1 with e1 _ _
    subst e1
    refine ⟨_, rfl, ?_⟩
    rw [← h7] at hu
    rw [Addr.add_lit, cell_of_row W g (off + j) cur e (0, 0) h3]
    rw [List.getElem?_take] at hu
    split at hu
    · rw [List.getElem?_drop] at hu
      simpa using hu
    · cases hu
section
variable {P : Program}
/-- append(v, ys...): v lies anywhere in a block of the call's own, ys are read -/
theorem run_append_at (w : World) (base : Nat) (t ty e : TypeId) (i : TypeInfo) (z : Value) (size bytes : Nat) (ht : P.underlying t = some (.slice e)) (hi : P.info? e = some i) (hz : i.zero = some z)
    (hsize : i.size = size) (hby : i.bytes = bytes) (hzs : z.cells.size = size) (hsz : 0 < size)
    (v : Value) (n : Nat) (xs : List Value) (hown : OwnAt w base e size v n xs)
    (B : Option Addr) (m c : Nat) (news : List Value) (hl : news.length = m * size) (hnews : 0 < m → ∃ a, B = some a ∧ ∀ j u, news[j]? = some u → w.cell? (a.add j) = some u) (h1 : ∀ u ∈ news, u.oneCell' = true)
    (h63 : n + m ≤ maxLen) (hbytes : (n + m) * bytes ≤ 140737488355328) (hbase : base ≤ w.heap.size) :
    ∃ v' w', (Builtin.append_ #[t, t] ty #[v, .slice B m c]).run P w = .ok v' w' ∧ OwnAt w' base e size v' (n + m) (xs ++ news) ∧ w.grownBy w' v.ownBlock ∧
      (v'.ownBlock = v.ownBlock ∨ ∃ b, v'.ownBlock = some b ∧ w.heap.size ≤ b) := by
  rcases Nat.eq_zero_or_pos m with rfl | hm
  · obtain rfl : news = [] := List.eq_nil_of_length_eq_zero (by simpa using hl)
    refine ⟨v, w, ?_, by simpa using hown, ⟨rfl, rfl, rfl, Nat.le_refl _, fun _ _ _ => rfl⟩, .inl rfl⟩
    rcases hown.2 with ⟨rfl, rfl⟩ | ⟨g, off, cap, cur, rfl, hbg, hg, hnc, hcm, hcs, htake⟩
    · cases B <;> simp [Builtin.append_, run_underlying ht, sizeOf, typeInfo, hi, Builtin.lenOf, Builtin.firstCells, loadCells, loadCellsFrom, storeCells]
    · cases B <;> simp [Builtin.append_, run_underlying ht, sizeOf, typeInfo, hi, Builtin.lenOf, Builtin.firstCells, loadCells, loadCellsFrom, storeCells, hnc]
  · obtain ⟨a, rfl, hcell⟩ := hnews hm
    rcases hown.2 with ⟨rfl, rfl⟩ | ⟨g, off, cap, cur, rfl, hbg, hg, hnc, hcm, hcs, htake⟩
    · obtain rfl : xs = [] := List.eq_nil_of_length_eq_zero (by simpa using hown.1)
      obtain ⟨v', w', hrun, r1, r2, _⟩ := run_append_own (P := P) w w.heap.size t ty e i z size bytes ht hi hz hsize hby hzs hsz (.slice none 0 0) 0 [] (World.ownsRow_nil w _ e size) a m c news hl hcell h1 h63 hbytes (Nat.le_refl _)
      have h2 := OwnAt.of_row r1
      refine ⟨v', w', hrun, h2.lower hbase, r2, ?_⟩
      cases hv : v'.ownBlock with
      | none => exact .inl rfl
      | some k => exact .inr ⟨k, rfl, (h2.block hv).1⟩
    · by_cases hroom : n + m ≤ cap
      · subst hsize
        have hmc : (n + m) * i.size ≤ cap * i.size := Nat.mul_le_mul_right _ hroom
        have hfit : off + n * i.size + news.length ≤ cur.size := by rw [hl, Nat.add_assoc, ← Nat.add_mul]; omega
        have hthere : ∀ j, j < news.length → w.cell? ⟨g, off + n * i.size + j, none⟩ = some (cur[off + n * i.size + j]!) ∧ w.frozen? ⟨g, off + n * i.size + j, none⟩ = false := fun j hj => by
          have hlt : off + n * i.size + j < cur.size := by omega
          refine ⟨?_, by simp [World.frozen?, hg]⟩
          rw [cell_of_row w g _ cur e (0, 0) hg]
          simp [hlt]
        have hrun := run_append_room_cells (P := P) w t ty e i ht hi g off n cap a m c news hl hcell h1 hroom (fun j hj => by rw [(hthere j hj).1]; rfl) (fun j hj => (hthere j hj).2)
        refine ⟨_, _, hrun, ⟨by rw [List.length_append, hown.1, hl, Nat.add_mul], .inr ⟨g, off, cap, _, rfl, hbg, heap_setCells g news _ w cur e hg hfit, hroom, hcm, ?_, ?_⟩⟩, grown_setCells _ _ _ _, .inl rfl⟩
        · simp only [List.size_toArray, List.length_append, List.length_take, List.length_drop, Array.length_toList]
          omega
        · have hx := hown.1
          have hlt : off ≤ cur.size := by omega
          simp only [List.toList_toArray]
          rw [List.drop_append_of_le_length (by simp; omega), List.drop_append_of_le_length (by simp; omega), List.drop_take, show off + n * i.size - off = n * i.size by omega, htake, List.take_append_of_le_length (by rw [List.length_append, hx, hl, Nat.add_mul]; omega)]
          rw [List.take_of_length_le (by rw [List.length_append, hx, hl, Nat.add_mul]; omega)]
      · have holds : ∀ j u, xs[j]? = some u → w.cell? ((⟨g, off, none⟩ : Addr).add j) = some u := fun j u hu => by
          obtain ⟨ad, e1, hc⟩ := hown.cell hu
          injection e1 with e1
          rw [e1]
          exact hc
        obtain ⟨v', w', hrun, r1, r2⟩ := run_append_arg_grows (P := P) w t ty e i z size bytes ht hi hz hsize hby hzs hsz ⟨g, off, none⟩ n cap xs hown.1 holds a m c news hl hcell (by omega) h63 hbytes
        have h2 := OwnAt.of_row r1
        refine ⟨v', w', hrun, h2.lower hbase, ⟨r2.os, r2.tape, r2.output, r2.size, fun k hk _ => r2.block k hk (by simp)⟩, ?_⟩
        rcases h2.2 with ⟨_, h0⟩ | ⟨g', off', cap', cur', rfl, hbg', _⟩
        · omega
        · exact .inr ⟨g', rfl, hbg'⟩
theorem wpList_append_at {ops : Array Oper} {rest : List Oper} {o : Oper} {a : Act} {Q : Exit → Act → World → Prop} (w : World) (hgd : o.guard = none) (s x : Operand) (t : TypeId)
    (ho : o.op = .call { callee := .builtin .append, args := #[s, x], argTypes := #[t, t] })
    (base : Nat) (e : TypeId) (i : TypeInfo) (z : Value) (size bytes : Nat) (ht : P.underlying t = some (.slice e)) (hi : P.info? e = some i) (hz : i.zero = some z)
    (hsize : i.size = size) (hby : i.bytes = bytes) (hzs : z.cells.size = size) (hsz : 0 < size)
    (v : Value) (n : Nat) (xs : List Value) (hs : a.eval s = v) (hown : OwnAt w base e size v n xs)
    (B : Option Addr) (m c : Nat) (news : List Value) (hx : a.eval x = .slice B m c) (hl : news.length = m * size) (hnews : 0 < m → ∃ a, B = some a ∧ ∀ j u, news[j]? = some u → w.cell? (a.add j) = some u) (h1 : ∀ u ∈ news, u.oneCell' = true)
    (h63 : n + m ≤ maxLen) (hbytes : (n + m) * bytes ≤ 140737488355328) (hbase : base ≤ w.heap.size)
    (h : ∀ v' w', OwnAt w' base e size v' (n + m) (xs ++ news) → w.grownBy w' v.ownBlock → (v'.ownBlock = v.ownBlock ∨ ∃ b, v'.ownBlock = some b ∧ w.heap.size ≤ b) → wpList P ops Q rest (a.put o.dst v') w') :
    wpList P ops Q (o :: rest) a w := by
  refine wpList_plain hgd fun K hK' => ?_
  obtain ⟨v', w', hrun, r1, r2, r3⟩ := run_append_at (P := P) w base t o.type e i z size bytes ht hi hz hsize hby hzs hsz v n xs hown B m c news hl hnews h1 h63 hbytes hbase
  unfold Oper.wp
  simp [execOp, ho, resolve, invoke, builtin, hs, hx, hrun, Result.andThen]
  exact hK' _ _ (h v' w' r1 r2 r3)
theorem step_append_at {ops : Array Oper} {o : Oper} {a : Act} {K : Act → World → Prop} {Q : Exit → Act → World → Prop} {E : Prop} (w : World) (hgd : o.guard = none) (s x : Operand) (t : TypeId)
    (ho : o.op = .call { callee := .builtin .append, args := #[s, x], argTypes := #[t, t] })
    (base : Nat) (e : TypeId) (i : TypeInfo) (z : Value) (size bytes : Nat) (ht : P.underlying t = some (.slice e)) (hi : P.info? e = some i) (hz : i.zero = some z)
    (hsize : i.size = size) (hby : i.bytes = bytes) (hzs : z.cells.size = size) (hsz : 0 < size)
    (v : Value) (n : Nat) (xs : List Value) (hs : a.eval s = v) (hown : OwnAt w base e size v n xs)
    (B : Option Addr) (m c : Nat) (news : List Value) (hx : a.eval x = .slice B m c) (hl : news.length = m * size) (hnews : 0 < m → ∃ a, B = some a ∧ ∀ j u, news[j]? = some u → w.cell? (a.add j) = some u) (h1 : ∀ u ∈ news, u.oneCell' = true)
    (h63 : n + m ≤ maxLen) (hbytes : (n + m) * bytes ≤ 140737488355328) (hbase : base ≤ w.heap.size)
    (h : ∀ v' w', OwnAt w' base e size v' (n + m) (xs ++ news) → w.grownBy w' v.ownBlock → (v'.ownBlock = v.ownBlock ∨ ∃ b, v'.ownBlock = some b ∧ w.heap.size ≤ b) → K (a.put o.dst v') w') :
    if Region.wanted o (yielded ops a.tmps) = true then Oper.wp P o a w K Q else E := by
  have hw : Region.wanted o (yielded ops a.tmps) = true := by simp [Region.wanted, hgd]
  rw [if_pos hw]
  obtain ⟨v', w', hrun, r1, r2, r3⟩ := run_append_at (P := P) w base t o.type e i z size bytes ht hi hz hsize hby hzs hsz v n xs hown B m c news hl hnews h1 h63 hbytes hbase
  unfold Oper.wp
  simp [execOp, ho, resolve, invoke, builtin, hs, hx, hrun, Result.andThen]
  exact h v' w' r1 r2 r3
end

/-! bytes -/
def QB (W : World) (base : Nat) (v : Value) (xs : List Int) : Prop := OwnAt W base 5 1 v xs.length (nums .u8 xs)
theorem QB.of_OB {W : World} {base : Nat} {v : Value} {xs : List Int} (h : OB W base v xs) : QB W base v xs := OwnAt.of_row h
theorem QB.nil (W : World) (base : Nat) : QB W base (.slice none 0 0) [] := OwnAt.nil W base _ 1
theorem QB.block {W : World} {base : Nat} {v : Value} {xs : List Int} (h : QB W base v xs) {k : Nat} (hk : v.ownBlock = some k) : base ≤ k ∧ k < W.heap.size := OwnAt.block h hk
theorem QB.move {W W' : World} {base : Nat} {v : Value} {xs : List Int} (h : QB W base v xs) (hb : ∀ k, v.ownBlock = some k → W'.heap[k]? = W.heap[k]?) : QB W' base v xs := OwnAt.move h hb
theorem QB.below {W W' : World} {base : Nat} {v : Value} {xs : List Int} (h : QB W base v xs) (hb : Below W.heap.size W W') : QB W' base v xs := h.move (fun k hk => hb.block k (h.block hk).2)
theorem QB.lower {W : World} {base base' : Nat} {v : Value} {xs : List Int} (h : QB W base v xs) (hb : base' ≤ base) : QB W base' v xs := OwnAt.lower h hb
theorem QB.form {W : World} {base : Nat} {v : Value} {xs : List Int} (h : QB W base v xs) : ∃ A c, v = .slice A xs.length c ∧ xs.length ≤ c ∧ c ≤ maxLen ∧ Kd.C (Kd.int .u8) W A xs.length xs := by
  have h0 := h
  rcases h.2 with ⟨rfl, hn⟩ | ⟨g, off, cap, cur, rfl, hb, hh, hc, hm, h6, h7⟩
  · obtain rfl : xs = [] := List.eq_nil_of_length_eq_zero hn
    exact ⟨none, 0, rfl, Nat.le_refl _, by simp [maxLen], Kd.C_nil _ _⟩
  · refine ⟨_, cap, rfl, hc, hm, Kd.C_of_reads (d := (0 : Int)) ⟨rfl, by simp only [maxLen] at hm; omega, fun _ => ⟨_, rfl, fun j hj => ?_⟩⟩⟩
    obtain ⟨ad, e, hcell⟩ := OwnAt.cell h0 (j := j) (u := .int .u8 (xs.getD j 0)) (by simp [nums, List.getElem?_eq_getElem hj, List.getD_eq_getElem?_getD])
    injection e with e
    rw [e]
    exact hcell
theorem QB.rest {W : World} {base g off n c k : Nat} {xs : List Int} (h : QB W base (.slice (some ⟨g, off, none⟩) n c) xs) (hk : k ≤ n) : QB W base (.slice (some ⟨g, if k = c then off else off + k, none⟩) (n - k) (c - k)) (xs.drop k) := by
  rcases h.2 with ⟨e, _⟩ | ⟨g', off', cap, cur, e, hb, hh, hc, hm, h6, h7⟩
  · cases e
  · injection e with e1 e2 e3
    injection e1 with e1
    injection e1 with e4 e5 _
    subst e4 e5 e3 e2
    refine ⟨by simp [nums], .inr ⟨g, _, c - k, cur, by rw [List.length_drop], hb, hh, by rw [List.length_drop]; omega, by omega, ?_, ?_⟩⟩
    · split <;> omega
    · rw [List.length_drop]
      have e : nums .u8 (xs.drop k) = (nums .u8 xs).drop k := by simp [nums, List.map_drop]
      rw [e, ← h7]
      split
      · rename_i hkc
        have : xs.length - k = 0 := by omega
        rw [this, Nat.zero_mul, List.take_zero, List.drop_eq_nil_of_le (by simp; omega)]
      · rw [List.drop_take, List.drop_drop]
        congr 1
        omega
theorem QB.pos {W : World} {base n c : Nat} {A : Option Addr} {xs : List Int} (h : QB W base (.slice A n c) xs) (hn : 0 < n) : n = xs.length ∧ ∃ g off, A = some ⟨g, off, none⟩ ∧ base ≤ g := by
  rcases h.2 with ⟨e, _⟩ | ⟨g', off', cap, cur, e, hb, _⟩
  · injection e with _ e _; omega
  · injection e with e1 e2 e3
    exact ⟨e2, g', off', e1, hb⟩
theorem bytes_news {W : World} {B : Option Addr} {ys : List Int} (h : Kd.C (Kd.int .u8) W B ys.length ys) (hm : 0 < ys.length) : ∃ a, B = some a ∧ ∀ j u, (nums .u8 ys)[j]? = some u → W.cell? (a.add j) = some u := by
  obtain ⟨bd, rfl, hb⟩ := (reads_ints h).2.2 hm
  refine ⟨bd, rfl, fun j u hu => ?_⟩
  have hj : j < ys.length := by
    have := (List.getElem?_eq_some_iff.1 hu).1
    simpa [nums] using this
  rw [hb j hj]
  simpa [nums, List.getElem?_eq_getElem hj, List.getD_eq_getElem?_getD] using hu
theorem nums_one (ys : List Int) : ∀ u ∈ nums .u8 ys, u.oneCell' = true := by
  intro u hu
  obtain ⟨n, _, rfl⟩ := List.mem_map.1 hu
  rfl
theorem nums_len (ys : List Int) : (nums .u8 ys).length = ys.length * 1 := by simp [nums]
section
variable {ops : Array Oper} {rest : List Oper} {o : Oper} {a : Act} {Q : Exit → Act → World → Prop} {K : Act → World → Prop} {E : Prop}
theorem app_q {W : World} (base : Nat) (hgd : o.guard = none) (s x : Operand) (ho : o.op = .call { callee := .builtin .append, args := #[s, x], argTypes := #[45, 45] })
    (v : Value) (xs ys : List Int) (B : Option Addr) (m c : Nat) (hm : m = ys.length) (hs : a.eval s = v) (hx : a.eval x = .slice B m c) (HO : QB W base v xs) (HR : Kd.C (Kd.int .u8) W B ys.length ys)
    (hbase : base ≤ W.heap.size) (hl : xs.length + ys.length ≤ 140737488355328)
    (h : ∀ v1 w1, QB w1 base v1 (xs ++ ys) → W.grownBy w1 v.ownBlock → (v1.ownBlock = v.ownBlock ∨ ∃ b, v1.ownBlock = some b ∧ W.heap.size ≤ b) → wpList Try.prog ops Q rest (a.put o.dst v1) w1) :
    wpList Try.prog ops Q (o :: rest) a W := by
  subst hm
  obtain ⟨i0, hi0, hz0, hz1, hz2⟩ := info_parts info_u8
  refine wpList_append_at W hgd s x 45 ho base 5 i0 (.int .u8 0) 1 1 Try.underlying45 hi0 hz0 hz1 hz2 rfl Nat.zero_lt_one v xs.length (nums .u8 xs) hs HO B ys.length c (nums .u8 ys) hx (nums_len ys) (bytes_news HR) (nums_one ys) (by simp only [maxLen]; omega) (by omega) hbase ?_
  intro v1 w1 h1 h2 h3
  refine h v1 w1 ?_ h2 h3
  unfold QB
  rw [nums_append, List.length_append]
  exact h1
theorem step_q {W : World} (base : Nat) (hgd : o.guard = none) (s x : Operand) (ho : o.op = .call { callee := .builtin .append, args := #[s, x], argTypes := #[45, 45] })
    (v : Value) (xs ys : List Int) (B : Option Addr) (m c : Nat) (hm : m = ys.length) (hs : a.eval s = v) (hx : a.eval x = .slice B m c) (HO : QB W base v xs) (HR : Kd.C (Kd.int .u8) W B ys.length ys)
    (hbase : base ≤ W.heap.size) (hl : xs.length + ys.length ≤ 140737488355328)
    (h : ∀ v1 w1, QB w1 base v1 (xs ++ ys) → W.grownBy w1 v.ownBlock → (v1.ownBlock = v.ownBlock ∨ ∃ b, v1.ownBlock = some b ∧ W.heap.size ≤ b) → K (a.put o.dst v1) w1) :
    if Region.wanted o (yielded ops a.tmps) = true then Oper.wp Try.prog o a W K Q else E := by
  subst hm
  obtain ⟨i0, hi0, hz0, hz1, hz2⟩ := info_parts info_u8
  refine step_append_at W hgd s x 45 ho base 5 i0 (.int .u8 0) 1 1 Try.underlying45 hi0 hz0 hz1 hz2 rfl Nat.zero_lt_one v xs.length (nums .u8 xs) hs HO B ys.length c (nums .u8 ys) hx (nums_len ys) (bytes_news HR) (nums_one ys) (by simp only [maxLen]; omega) (by omega) hbase ?_
  intro v1 w1 h1 h2 h3
  refine h v1 w1 ?_ h2 h3
  unfold QB
  rw [nums_append, List.length_append]
  exact h1
end
end Go.Proofs.Ytobljkhidgbeoaa.Oct
namespace Go.Proofs.Ytobljkhidgbeoaa.Oct
/-- one step of a region that draws: a call of a Go function, met by its contract -/
theorem step_call {P : Program} {ops : Array Oper} {o : Oper} {a : Act} {K : Act → World → Prop} {Q : Exit → Act → World → Prop} {E : Prop} {W : World} (hgd : o.guard = none) (n : Nat) (xs : Array Operand) (ts : Array TypeId)
    (ho : o.op = .call { callee := .value (.func n), args := xs, argTypes := ts }) (vals : Array Value) (hv' : xs.toList.map a.eval = vals.toList) (fn : Func) (hf : P.funcs[n]? = some fn) (hn : (fn.name == "runtime.NumGoroutine") = false) (hb : fn.body.isNone = false)
    (h : Calls P n vals W (fun e w' => ∃ v, e = .returned v ∧ K (a.put o.dst v) w')) :
    if Region.wanted o (yielded ops a.tmps) = true then Oper.wp P o a W K Q else E := by
  have hw : Region.wanted o (yielded ops a.tmps) = true := by simp [Region.wanted, hgd]
  rw [if_pos hw]
  have hv : xs.map a.eval = vals := by
    apply Array.toList_inj.1
    rw [Array.toList_map]
    exact hv'
  subst hv
  have hn' : ¬ fn.name = "runtime.NumGoroutine" := by simpa using hn
  have hb' : ¬ fn.body = none := by intro e; rw [e] at hb; simp at hb
  unfold Oper.wp
  simp [execOp, ho, resolve, invoke, Result.andThen, Deferred.ofValue, Act.eval, callFunc, hf, hn', hb']
  refine h.mono ?_
  rintro e w' ⟨v, rfl, hk⟩
  exact hk
end Go.Proofs.Ytobljkhidgbeoaa.Oct
