import Derived.Deep.RegionHeldLaw
import Derived.Deep.RegionLawGrows
import Derived.Test.YtobljkhidgbeoaaZ02
import Derived.Test.YtobljkhidgbeoaaZ35
import Derived.Test.YtobljkhidgbeoaaZ39
/- The plain law of WalBack. -/
namespace Go.Proofs.Ytobljkhidgbeoaa.Oct
open Go.RowKit Go.Proofs.YtobljkhidgbeoaaW.PrintWords Go.Proofs.Ytobljkhidgbeoaa.M
set_option linter.unusedVariables false
set_option linter.unusedSimpArgs false
theorem readL_whole {l : List Rc} (hg : ∀ r ∈ l, r.good) : readL 0 (allB l) = endsR 0 l := by
  have := readL_allB hg [] 0
  rw [List.append_nil, readL_nil, List.append_nil] at this
  exact this
/-- where each record ends -/
def cutsL (l : List Rc) : List Int := (endsR 0 l).map fun q => (q.1 : Int)
theorem endsR_snoc (l : List Rc) (r : Rc) : ∀ at_, endsR at_ (l ++ [r]) = endsR at_ l ++ [(at_ + (allB (l ++ [r])).length, r)] := by
  induction l with
  | nil => intro at_; simp [endsR, allB]
  | cons q l ih =>
    intro at_
    show (at_ + q.all.length, q) :: endsR (at_ + q.all.length) (l ++ [r]) = (at_ + q.all.length, q) :: endsR (at_ + q.all.length) l ++ _
    rw [ih, List.cons_append, List.cons_append, allB_cons, List.length_append, Nat.add_assoc]
theorem endsR_len (l : List Rc) : ∀ at_, (endsR at_ l).length = l.length := by
  induction l with
  | nil => intro _; rfl
  | cons r l ih => intro at_; simp [endsR, ih]
theorem endsR_get (l : List Rc) : ∀ at_ (j : Nat), j < l.length → (endsR at_ l)[j]?.map (·.1) = some (at_ + (allB (l.take (j + 1))).length) := by
  induction l with
  | nil => intro _ j h; simp at h
  | cons r l ih =>
    intro at_ j h
    cases j with
    | zero => simp [endsR, allB]
    | succ j =>
      simp only [List.length_cons] at h
      rw [List.take_succ_cons, allB_cons, List.length_append]
      show (endsR (at_ + r.all.length) l)[j]?.map (·.1) = _
      rw [ih _ j (by omega), Nat.add_assoc]
/-- a text of records that is cut is read up to the record that is cut -/
theorem readL_cut {l : List Rc} (hg : ∀ r ∈ l, r.good) {k n : Nat} (hk : k ≤ l.length) (h1 : (allB (l.take k)).length ≤ n) (h2 : k < l.length → n < (allB (l.take (k + 1))).length) (h3 : n ≤ (allB l).length) : readL 0 ((allB l).take n) = endsR 0 (l.take k) := by
  rcases Nat.lt_or_ge k l.length with h | h
  · have hs := split_at h (0, [])
    obtain ⟨r, hr⟩ : ∃ r, r = l.getD k (0, []) := ⟨_, rfl⟩
    have hrm : r ∈ l := by rw [hr]; exact rec_mem h _
    have h2 := h2 h
    rw [take_snoc h (0, []), allB_snoc, List.length_append, ← hr] at h2
    rw [← hr] at hs
    have e : allB l = allB (l.take k) ++ (r.all ++ allB (l.drop (k + 1))) := by
      conv => lhs; rw [hs, allB_app, allB_cons]
    rw [e, List.take_append, List.take_of_length_le h1, List.take_append_of_le_length (by omega), readL_allB (fun q hq => hg q (List.mem_of_mem_take hq)), readL_no (isR_cut (hg r hrm) (by omega)), List.append_nil]
  · have hkl : k = l.length := by omega
    subst hkl
    rw [List.take_length] at h1 ⊢
    rw [List.take_of_length_le (by omega), readL_whole hg]
end Go.Proofs.Ytobljkhidgbeoaa.Oct
/- WalBack's walk. -/
namespace Go.Proofs.Ytobljkhidgbeoaa.Oct
open Go.RowKit Go.Proofs.YtobljkhidgbeoaaW.PrintWords Go.Proofs.Ytobljkhidgbeoaa.M
set_option linter.unusedVariables false
set_option linter.unusedSimpArgs false
theorem info_int : (Try.prog.info? 3).map (fun i => (i.zero, i.size, i.bytes)) = some (some (.int .i64 0), 1, 8) := by kernel_rfl
theorem own_at_type {W : World} {base : Nat} {e : TypeId} {size : Nat} {v : Value} {n : Nat} {xs : List Value} (h : OwnAt W base e size v n xs) {k : Nat} (hk : v.ownBlock = some k) : ∃ cur, W.heap[k]? = some (.cells cur e (0, 0)) := by
  rcases h.2 with ⟨rfl, _⟩ | ⟨g, off, cap, cur, rfl, _, hh, _⟩
  · cases hk
  · injection hk with hk
    dsimp only at hk
    subst hk
    exact ⟨cur, hh⟩
theorem own_at_apart {W : World} {b1 b2 : Nat} {e1 e2 : TypeId} {s1 s2 : Nat} {v1 v2 : Value} {n1 n2 : Nat} {xs1 xs2 : List Value} (h1 : OwnAt W b1 e1 s1 v1 n1 xs1) (h2 : OwnAt W b2 e2 s2 v2 n2 xs2) (hne : e1 ≠ e2) : ∀ k, v1.ownBlock = some k → some k ≠ v2.ownBlock := by
  intro k hk e
  obtain ⟨cur, hc⟩ := own_at_type h1 hk
  obtain ⟨cur2, hc2⟩ := own_at_type h2 e.symm
  rw [hc] at hc2
  injection hc2 with hc2
  injection hc2 with _ hc2
  exact hne hc2
/-- numbers in memory of the call's own -/
def OI (W : World) (base : Nat) (v : Value) (xs : List Int) : Prop := OwnAt W base 3 1 v xs.length (nums .i64 xs)
theorem OI.nil (W : World) (base : Nat) : OI W base (.slice none 0 0) [] := OwnAt.nil W base _ 1
theorem OI.move {W W' : World} {base : Nat} {v : Value} {xs : List Int} (h : OI W base v xs) (hb : ∀ k, v.ownBlock = some k → W'.heap[k]? = W.heap[k]?) : OI W' base v xs := OwnAt.move h hb
theorem OI.below {W W' : World} {base : Nat} {v : Value} {xs : List Int} (h : OI W base v xs) (hb : Below W.heap.size W W') : OI W' base v xs := h.move (fun k hk => hb.block k (OwnAt.block h hk).2)
theorem OI.form {W : World} {base : Nat} {v : Value} {xs : List Int} (h : OI W base v xs) : ∃ A c, v = .slice A xs.length c ∧ xs.length ≤ c := by
  rcases h.2 with ⟨rfl, hn⟩ | ⟨g, off, cap, cur, rfl, hb, hh, hc, _⟩
  · exact ⟨none, 0, by rw [hn], by omega⟩
  · exact ⟨_, cap, rfl, hc⟩
theorem OI.at {W : World} {base c : Nat} {A : Option Addr} {xs : List Int} (h : OI W base (.slice A xs.length c) xs) {j : Nat} (hj : j < xs.length) : ∃ ad, A = some ad ∧ W.cell? (ad.add j) = some (.int .i64 (xs.getD j 0)) :=
  OwnAt.cell h (by simp [nums, List.getElem?_eq_getElem hj, List.getD_eq_getElem?_getD])
theorem OI.at' {W : World} {base n c : Nat} {A : Option Addr} {xs : List Int} (h : OI W base (.slice A n c) xs) {j : Nat} (hj : j < xs.length) : ∃ ad, A = some ad ∧ W.cell? (ad.add j) = some (.int .i64 (xs.getD j 0)) := by
  have hn : n = xs.length := by
    obtain ⟨A', c', e, _⟩ := h.form
    injection e
  subst hn
  exact h.at hj
section
variable {ops : Array Oper} {rest : List Oper} {o : Oper} {a : Act} {Q : Exit → Act → World → Prop}
end
theorem cutsL_snoc (l : List Rc) (r : Rc) : cutsL (l ++ [r]) = cutsL l ++ [((allB (l ++ [r])).length : Int)] := by
  unfold cutsL
  rw [endsR_snoc, List.map_append, Nat.zero_add]
  rfl
theorem cutsL_len (l : List Rc) : (cutsL l).length = l.length := by unfold cutsL; rw [List.length_map, endsR_len]
theorem cutsL_get (l : List Rc) (j : Nat) (h : j < l.length) : (cutsL l).getD j 0 = ((allB (l.take (j + 1))).length : Int) := by
  have := endsR_get l 0 j h
  unfold cutsL
  rw [List.getD_eq_getElem?_getD, List.getElem?_map]
  cases hq : (endsR 0 l)[j]? with
  | none => rw [hq] at this; simp at this
  | some q => rw [hq] at this; simp at this; simp [this]
end Go.Proofs.Ytobljkhidgbeoaa.Oct
/- WalBack's walk. -/
namespace Go.Proofs.Ytobljkhidgbeoaa.Oct
open Go.RowKit Go.Proofs.YtobljkhidgbeoaaW.PrintWords Go.Proofs.Ytobljkhidgbeoaa.M
set_option linter.unusedVariables false
set_option linter.unusedSimpArgs false
end Go.Proofs.Ytobljkhidgbeoaa.Oct
/- The document's Write. -/
namespace Go.Proofs.Ytobljkhidgbeoaa.Oct
open Go.RowKit Go.Proofs.YtobljkhidgbeoaaW.PrintWords Go.Proofs.Ytobljkhidgbeoaa.M
set_option linter.unusedVariables false
set_option linter.unusedSimpArgs false
theorem putM_two {v : Int} (h0 : 0 ≤ v) (h : v ≤ 1024) : putM v 2 = ([v / 256, v % 256], 0) := by
  unfold putM
  rw [if_neg (by omega), if_neg (by simp; omega)]
  have e : beB v ((2 : Int)).toNat = [v / 256 % 256, v % 256] := by simp [beB, List.range, List.range.loop, beAt]
  rw [e, Int.emod_eq_of_lt (by omega) (by omega : v / 256 < 256)]
end Go.Proofs.Ytobljkhidgbeoaa.Oct
/- The document's Read. -/
namespace Go.Proofs.Ytobljkhidgbeoaa.M
/-- a record stands at a place just if the bytes that it would have stand there -/
theorem isR_bytes {b : List Int} (hb : Bytes b) {i : Nat} (h7 : i + 7 ≤ b.length) {N : Nat} (hN : (N : Int) = 256 * b.getD i 0 + b.getD (i + 1) 0) :
    lenR (b.drop i) = N ∧ recR (b.drop i) = (b.getD (i + 2) 0, (b.take (i + 3 + N)).drop (i + 3)) ∧
    (isR (b.drop i) ↔ i + 7 + N ≤ b.length ∧ Rc.good (b.getD (i + 2) 0, (b.take (i + 3 + N)).drop (i + 3)) ∧ Rc.all (b.getD (i + 2) 0, (b.take (i + 3 + N)).drop (i + 3)) = (b.take (i + 7 + N)).drop i) := by
  obtain ⟨h1, h2, h3⟩ := isR_at h7 hN
  refine ⟨h1, h3, fun h => ?_, fun ⟨e1, e2, e3⟩ => ?_⟩
  · obtain ⟨g1, g2, _, _⟩ := isR_back (hb.drop i) h
    have hl := h.2.2.2.1
    rw [h1, List.length_drop] at hl
    rw [h3] at g1 g2
    rw [h1, take_of_drop, show i + (7 + N) = i + 7 + N by omega] at g2
    exact ⟨by omega, g1, g2⟩
  · have e : b.drop i = Rc.all (b.getD (i + 2) 0, (b.take (i + 3 + N)).drop (i + 3)) ++ (b.drop i).drop (7 + N) := by
      rw [e3, show i + 7 + N = i + (7 + N) by omega, ← take_of_drop, List.take_append_drop]
    rw [e]
    exact (isR_all e2 _).1
end Go.Proofs.Ytobljkhidgbeoaa.M
namespace Go.Proofs.Ytobljkhidgbeoaa.Oct
open Go.RowKit Go.Proofs.YtobljkhidgbeoaaW.PrintWords Go.Proofs.Ytobljkhidgbeoaa.M
set_option linter.unusedVariables false
set_option linter.unusedSimpArgs false
section
variable {ops : Array Oper} {rest : List Oper} {o : Oper} {a : Act} {Q : Exit → Act → World → Prop}
theorem app_rec {W : World} (base : Nat) (hgd : o.guard = none) (s x : Operand) (ho : o.op = .call { callee := .builtin .append, args := #[s, x], argTypes := #[28, 28] })
    (v : Value) (ls : List Rc) (r : Rc) (u : Value) (g : Nat) (hs : a.eval s = v) (hx : a.eval x = .slice (some ⟨g, 0, none⟩) 1 1) (HO : RW W base v ls) (hb : W.heap[g]? = some (.cells #[.int .i64 r.1, u] 50 (0, 0))) (HU : OB W base u r.2)
    (hbase : base ≤ W.heap.size) (hl : ls.length ≤ 10000000000)
    (h : ∀ v1 w1, RW w1 base v1 (ls ++ [r]) → W.grownBy w1 v.ownBlock → (∀ k, v.ownBlock = some k → base ≤ k) → wpList Try.prog ops Q rest (a.put o.dst v1) w1) :
    wpList Try.prog ops Q (o :: rest) a W := by
  obtain ⟨vs, e2, e3⟩ := HO
  obtain ⟨i0, hi0, hz0, hz1, hz2⟩ := info_parts info_rec
  obtain ⟨Au, cu, rfl, _⟩ := HU.reads
  obtain ⟨x0, x1, _, _⟩ := two_cells' hb
  refine wpList_append_own W hgd s x 28 ho base 50 i0 (.agg #[.int .i64 0, .slice none 0 0]) 2 32 Try.underlying28 hi0 hz0 hz1 hz2 rfl (by decide) v ls.length vs hs e2 ⟨g, 0, none⟩ 1 1 [.int .i64 r.1, .slice Au r.2.length cu] hx rfl ?_ (by simp [Value.oneCell']) (by simp only [maxLen]; omega) (by omega) hbase ?_
  · intro j u' hu'
    match j, hu' with
    | 0, hu' => simp at hu'; subst hu'; simpa [Addr.add] using x0
    | 1, hu' => simp at hu'; subst hu'; simpa [Addr.add] using x1
  · intro v1 w1 ho1 hg1 _
    exact h v1 w1 (RW.add e2 e3 HU ho1 (fun k hk hne => hg1.block k hk hne)) hg1 (fun k hk => own_base e2 k hk)
end
end Go.Proofs.Ytobljkhidgbeoaa.Oct
/- The document's Read: the walk. -/
namespace Go.Proofs.Ytobljkhidgbeoaa.Oct
open Go.RowKit Go.Proofs.YtobljkhidgbeoaaW.PrintWords Go.Proofs.Ytobljkhidgbeoaa.M
set_option linter.unusedVariables false
set_option linter.unusedSimpArgs false
end Go.Proofs.Ytobljkhidgbeoaa.Oct
namespace Go.Proofs.Ytobljkhidgbeoaa.Oct
open Go.RowKit Go.Proofs.YtobljkhidgbeoaaW.PrintWords Go.Proofs.Ytobljkhidgbeoaa.M
set_option linter.unusedVariables false
set_option linter.unusedSimpArgs false
theorem run_append_empty (W : World) (ty : TypeId) (A B : Option Addr) (n c : Nat) (hA : A = none → n = 0) : (Builtin.append_ #[45, 45] ty #[.slice A n n, .slice B 0 c]).run Try.prog W = .ok (.slice A n n) W := by
  obtain ⟨i0, hi0, hz0, hz1, hz2⟩ := info_parts info_u8
  have ht := Try.underlying45
  cases A with
  | none =>
    obtain rfl := hA rfl
    cases B <;> simp [Builtin.append_, run_underlying ht, sizeOf, typeInfo, hi0, Builtin.lenOf, Builtin.firstCells, loadCells, loadCellsFrom, storeCells]
  | some ad =>
    cases B <;> simp [Builtin.append_, run_underlying ht, sizeOf, typeInfo, hi0, Builtin.lenOf, Builtin.firstCells, loadCells, loadCellsFrom, storeCells]

set_option maxRecDepth 20000 in
/-- append(v[:n:n], ys...) as one step of a region that draws: v stays as it is; what comes is read -/
theorem step_app_full {ops : Array Oper} {o : Oper} {a : Act} {K : Act → World → Prop} {Q : Exit → Act → World → Prop} {E : Prop} {W : World} (hgd : o.guard = none) (s x : Operand)
    (ho : o.op = .call { callee := .builtin .append, args := #[s, x], argTypes := #[45, 45] })
    (F : Nat → Prop) (A B : Option Addr) (n m c : Nat) (xs ys : List Int) (hs : a.eval s = .slice A n n) (hx : a.eval x = .slice B m c) (hn : n = xs.length) (hm : m = ys.length) (HR1 : RB W F A xs) (HR2 : Kd.C (Kd.int .u8) W B m ys)
    (hl : n + m ≤ 140737488355328)
    (h : ∀ A1 c1 w1, n + m ≤ c1 → RB w1 (New W F) A1 (xs ++ ys) → Below W.heap.size W w1 → K (a.put o.dst (.slice A1 (n + m) c1)) w1) :
    if Region.wanted o (yielded ops a.tmps) = true then Oper.wp Try.prog o a W K Q else E := by
  subst hn hm
  have hAn : A = none → xs.length = 0 := fun e => by
    rcases Nat.eq_zero_or_pos xs.length with h0 | h0
    · exact h0
    · obtain ⟨ad, e', _⟩ := HR1.1.2.2 h0; rw [e] at e'; cases e'
  by_cases hy : ys.length = 0
  · obtain rfl : ys = [] := List.eq_nil_of_length_eq_zero hy
    have hw : Region.wanted o (yielded ops a.tmps) = true := by simp [Region.wanted, hgd]
    rw [if_pos hw]
    have hrun := run_append_empty W o.type A B xs.length c hAn
    unfold Oper.wp
    simp [execOp, ho, resolve, invoke, builtin, hs, hx, hrun, Result.andThen]
    exact h A xs.length W (by simp) (by rw [List.append_nil]; exact HR1.mono (fun k hk _ => .inl hk)) (Below.refl _ _)
  · obtain ⟨i0, hi0, hz0, hz1, hz2⟩ := info_parts info_u8
    have hr1 := reads_ints HR1.1
    have hr2 := reads_ints HR2
    obtain ⟨bd, rfl, hb⟩ := hr2.2.2 (by omega)
    refine step_append_grows hgd s x 45 ho 5 i0 (.int .u8 0) 1 1 Try.underlying45 hi0 hz0 hz1 hz2 rfl Nat.zero_lt_one A xs.length xs.length (nums .u8 xs) hs (fun e => ⟨hAn e, hAn e⟩) (by simp [nums]) ?_ bd ys.length c (nums .u8 ys) hx (by simp [nums]) ?_ ?_ (by omega) (by simp only [maxLen]; omega) (by omega) ?_
    · intro ad e j u hu
      have hj : j < xs.length := by
        have := (List.getElem?_eq_some_iff.1 hu).1
        simpa [nums] using this
      obtain ⟨ad', e', hc⟩ := hr1.2.2 (by omega)
      rw [e] at e'
      injection e' with e'
      subst e'
      rw [hc j hj]
      simpa [nums, List.getElem?_eq_getElem hj, List.getD_eq_getElem?_getD] using hu
    · intro j u hu
      have hj : j < ys.length := by
        have := (List.getElem?_eq_some_iff.1 hu).1
        simpa [nums] using this
      rw [hb j hj]
      simpa [nums, List.getElem?_eq_getElem hj, List.getD_eq_getElem?_getD] using hu
    · intro u hu
      obtain ⟨q, _, rfl⟩ := List.mem_map.1 hu
      rfl
    · intro v1 w1 hown hg
      have hob : OB w1 W.heap.size v1 (xs ++ ys) := by
        unfold OB
        rw [nums_append, List.length_append]
        exact hown
      obtain ⟨A1, c1, rfl, hc1, hrb⟩ := hob.rb
      rw [List.length_append] at hc1 ⊢
      refine h A1 c1 w1 hc1 (hrb.mono (fun k hk _ => .inr hk)) ⟨hg.os, hg.tape, hg.output, hg.size, fun k hk => hg.block k hk (by simp)⟩

/-! the tape, as a value -/
structure TS where
  room : Nat
  bs : List Int
  forced : Nat
def TS.ok (t : TS) : Prop := 1 ≤ t.room ∧ t.room ≤ 65536 ∧ t.bs.length ≤ t.room ∧ t.forced ≤ t.bs.length ∧ Bytes t.bs
def TS.append (t : TS) (ys : List Int) : TS × Int := if t.room - t.bs.length < ys.length then (t, 5) else ({ t with bs := t.bs ++ ys }, 0)
def TS.force (t : TS) : TS := { t with forced := t.bs.length }
/-- how many bytes a crash leaves -/
def TS.left (t : TS) (k : Int) : Nat := t.forced + (max (min k ((t.bs.length : Int) - t.forced)) 0).toNat
def TS.crash (t : TS) (k : Int) : TS := { t with bs := t.bs.take (t.left k), forced := t.left k }
def TS.cut (t : TS) (n : Int) : TS × Int := if n < 0 ∨ (t.bs.length : Int) < n then (t, 1) else ({ t with bs := t.bs.take n.toNat, forced := min t.forced n.toNat }, 0)
def TS.swap (t : TS) (ys : List Int) : TS × Int := if t.room < ys.length then (t, 5) else ({ t with bs := ys, forced := ys.length }, 0)
theorem TS.left_le {t : TS} (h : t.ok) (k : Int) : t.forced ≤ t.left k ∧ t.left k ≤ t.bs.length := by
  have := h.2.2.2.1
  unfold TS.left
  omega
theorem TS.append_ok {t : TS} (h : t.ok) {ys : List Int} (hy : Bytes ys) : (t.append ys).1.ok := by
  unfold TS.append
  split
  · exact h
  · obtain ⟨h1, h2, h3, h4, h5⟩ := h
    exact ⟨h1, h2, by simp only [List.length_append]; omega, by simp only [List.length_append]; omega, h5.append hy⟩
theorem TS.force_ok {t : TS} (h : t.ok) : t.force.ok := ⟨h.1, h.2.1, h.2.2.1, Nat.le_refl _, h.2.2.2.2⟩
theorem TS.crash_ok {t : TS} (h : t.ok) (k : Int) : (t.crash k).ok := by
  have := TS.left_le h k
  obtain ⟨h1, h2, h3, h4, h5⟩ := h
  refine ⟨h1, h2, ?_, ?_, h5.take _⟩
  · show (t.bs.take _).length ≤ t.room; rw [List.length_take]; omega
  · show t.left k ≤ (t.bs.take _).length; rw [List.length_take]; omega
theorem TS.cut_ok {t : TS} (h : t.ok) (n : Int) : (t.cut n).1.ok := by
  unfold TS.cut
  split
  · exact h
  · obtain ⟨h1, h2, h3, h4, h5⟩ := h
    refine ⟨h1, h2, ?_, ?_, h5.take _⟩
    · show (t.bs.take _).length ≤ t.room; rw [List.length_take]; omega
    · show min t.forced _ ≤ (t.bs.take _).length; rw [List.length_take]; omega
theorem TS.swap_ok {t : TS} (h : t.ok) {ys : List Int} (hy : Bytes ys) : (t.swap ys).1.ok := by
  unfold TS.swap
  split
  · exact h
  · obtain ⟨h1, h2, h3, h4, h5⟩ := h
    exact ⟨h1, h2, by show ys.length ≤ t.room; omega, Nat.le_refl _, hy⟩

/-! the tape in memory: its block p and its bytes' block are let by F -/
def TapeAt (W : World) (p : Nat) (t : TS) (F : Nat → Prop) : Prop :=
  ∃ A c, W.heap[p]? = some (.cells #[.int .i64 t.room, .slice A t.bs.length c, .int .i64 t.forced] 62 (0, 0)) ∧ t.bs.length ≤ c ∧ F p ∧ RB W (fun k => F k ∧ k ≠ p) A t.bs ∧ t.ok
end Go.Proofs.Ytobljkhidgbeoaa.Oct
namespace Go.Proofs.Ytobljkhidgbeoaa.Oct
open Go.RowKit Go.Proofs.YtobljkhidgbeoaaW.PrintWords Go.Proofs.Ytobljkhidgbeoaa.M
set_option linter.unusedVariables false
set_option linter.unusedSimpArgs false
/-- the three cells of a block -/
theorem three_cells {W : World} {b : Nat} {x y z : Value} {t : TypeId} (h : W.heap[b]? = some (.cells #[x, y, z] t (0, 0))) :
    W.cell? ⟨b, 0, none⟩ = some x ∧ W.cell? ⟨b, 1, none⟩ = some y ∧ W.cell? ⟨b, 2, none⟩ = some z ∧ W.frozen? ⟨b, 0, none⟩ = false ∧ W.frozen? ⟨b, 1, none⟩ = false ∧ W.frozen? ⟨b, 2, none⟩ = false := by
  refine ⟨?_, ?_, ?_, ?_, ?_, ?_⟩ <;> simp [World.cell?, World.frozen?, h]
theorem TapeAt.step {W W' : World} {p : Nat} {t : TS} {F : Nat → Prop} (h : TapeAt W p t F) (hs : W.heap.size ≤ W'.heap.size) (hb : ∀ k, F k → k < W.heap.size → W'.heap[k]? = W.heap[k]?) : TapeAt W' p t F := by
  obtain ⟨A, c, hh, hc, hp, hr, hok⟩ := h
  exact ⟨A, c, (hb p hp (Array.getElem?_eq_some_iff.1 hh).1).trans hh, hc, hp, hr.step hs (fun k hk hlt => hb k hk.1 hlt), hok⟩
theorem TapeAt.below {W W' : World} {p : Nat} {t : TS} {F : Nat → Prop} (h : TapeAt W p t F) (hb : Below W.heap.size W W') : TapeAt W' p t F := h.step hb.size (fun k _ hk => hb.block k hk)
theorem TapeAt.grown {W W' : World} {p : Nat} {t : TS} {F : Nat → Prop} {row : Option Nat} (h : TapeAt W p t F) (hg : W.grownBy W' row) (hf : ∀ k, F k → some k ≠ row) : TapeAt W' p t F := h.step hg.size (fun k hF hk => hg.block k hk (hf k hF))
theorem TapeAt.mono {W : World} {p : Nat} {t : TS} {F G : Nat → Prop} (h : TapeAt W p t F) (hg : ∀ k, F k → k < W.heap.size → G k) : TapeAt W p t G := by
  obtain ⟨A, c, hh, hc, hp, hr, hok⟩ := h
  exact ⟨A, c, hh, hc, hg p hp (Array.getElem?_eq_some_iff.1 hh).1, hr.mono (fun k hk hlt => ⟨hg k hk.1 hlt, hk.2⟩), hok⟩
/-- a call of a tape's: its error, the tape behind it, and what was turned -/
def RetT (W : World) (p : Nat) (F : Nat → Prop) (t : TS) (n : Int) (e : Ending) (W' : World) : Prop := e = .returned (.int .i64 n) ∧ TapeAt W' p t (New W F) ∧ W.grownBy W' (some p)
theorem grown_set (W : World) (p j : Nat) (v : Value) : W.grownBy (W.setCell ⟨p, j, none⟩ v) (some p) := ⟨rfl, rfl, rfl, by simp [World.setCell], fun k hk hne => Below.heap_setCell W ⟨p, j, none⟩ v k (fun e => hne (by rw [e]))⟩
theorem grown_below {W W1 W2 : World} {row : Option Nat} (h : Below W.heap.size W W1) (g : W1.grownBy W2 row) : W.grownBy W2 row := World.grownBy.trans (grown_of_below h row) g
theorem below_draws (W : World) (n : Nat) : Below W.heap.size W (W.drewN n) := pw_below_drewN (Below.refl _ _) n

theorem made_calls (w : World) (p : Nat) (t : TS) (F : Nat → Prop) (h : TapeAt w p t F) : Calls Try.prog 38 #[.pointer (some ⟨p, 0, none⟩)] w fun e w' => e = .returned (.bool true) ∧ w' = w := by
  obtain ⟨A, c, hh, hc, hp, hr, hok⟩ := h
  obtain ⟨c0, _, _, _, _, _⟩ := three_cells hh
  have hroom : decide (0 < t.room) = true := by have := hok.1; simp; omega
  go_enter Try.func38, Try.ntmps38
  go_wp2
  go_ret
  exact ⟨rfl, rfl⟩
theorem force_calls (w : World) (p : Nat) (t : TS) (F : Nat → Prop) (h : TapeAt w p t F) : Calls Try.prog 23 #[.pointer (some ⟨p, 0, none⟩)] w (RetT w p F t.force 0) := by
  have HT := Aside0.mk h
  obtain ⟨A, c, hh, hc, hp, hr, hok⟩ := h
  obtain ⟨c0, c1, c2, f0, f1, f2⟩ := three_cells hh
  have HH := Aside0.mk hh
  clear hh
  go_enter Try.func23, Try.ntmps23
  go_wp2_with fail
  refine (made_calls _ p t F HT.out).mono ?_
  rintro e w1 ⟨rfl, rfl⟩
  go_wp2
  go_ret
  refine ⟨rfl, ⟨A, c, heap_set _ HH.out, hc, .inl hp, ?_, TS.force_ok hok⟩, grown_set _ _ _ _⟩
  exact (hr.grown (grown_set _ p 2 _) (fun k hk e => hk.2 (by injection e))).mono (fun k hk _ => ⟨.inl hk.1, hk.2⟩)
theorem room_calls (w : World) (p : Nat) (t : TS) (F : Nat → Prop) (h : TapeAt w p t F) : Calls Try.prog 19 #[.pointer (some ⟨p, 0, none⟩)] w fun e w' => e = .returned (.int .i64 t.room) ∧ w' = w := by
  have HT := Aside0.mk h
  obtain ⟨A, c, hh, hc, hp, hr, hok⟩ := h
  obtain ⟨c0, c1, c2, f0, f1, f2⟩ := three_cells hh
  clear hh
  go_enter Try.func19, Try.ntmps19
  go_wp2_with fail
  refine (made_calls _ p t F HT.out).mono ?_
  rintro e w1 ⟨rfl, rfl⟩
  go_wp2
  go_ret
  exact ⟨rfl, rfl⟩
theorem bytes_calls (w : World) (p : Nat) (t : TS) (F : Nat → Prop) (h : TapeAt w p t F) : Calls Try.prog 21 #[.pointer (some ⟨p, 0, none⟩)] w fun e w' => ∃ v, e = .returned v ∧ OB w' w.heap.size v t.bs ∧ Below w.heap.size w w' := by
  have HT := Aside0.mk h
  obtain ⟨A, c, hh, hc, hp, hr, hok⟩ := h
  obtain ⟨c0, c1, c2, f0, f1, f2⟩ := three_cells hh
  clear hh
  have HR := Aside0.mk hr.1
  have HL : Aside0 (t.bs.length ≤ 65536) := ⟨Nat.le_trans hok.2.2.1 hok.2.1⟩
  clear hr hok
  go_enter Try.func21, Try.ntmps21
  go_wp2_with fail
  refine (made_calls _ p t F HT.out).mono ?_
  rintro e w1 ⟨rfl, rfl⟩
  go_wp2_with fail
  refine (clone_calls _ A c t.bs HR.out (by have := HL.out; omega)).mono ?_
  rintro e w2 ⟨v, rfl, ho, hb⟩
  have HO := Aside0.mk ho
  have HB := Aside0.mk hb
  clear ho hb
  go_wp2_with fail
  go_ret
  exact ⟨_, rfl, HO.out, HB.out⟩
end Go.Proofs.Ytobljkhidgbeoaa.Oct
