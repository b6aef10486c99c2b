import Derived.Deep.RegionLawGrows
import Derived.Test.YtcnohnieoecpdaaFClone
namespace Go.Proofs.Ytcnohnieoecpdaa.Oct
open Go.RowKit Go.Proofs.YtcnohnieoecpdaaW.PrintWords Go.Proofs.Ytcnohnieoecpdaa.M
set_option linter.unusedVariables false
set_option linter.unusedSimpArgs false
theorem run_append_empty (W : World) (ty : TypeId) (A B : Option Addr) (n c : Nat) (hA : A = none → n = 0) : (Builtin.append_ #[22, 22] ty #[.slice A n n, .slice B 0 c]).run Try.prog W = .ok (.slice A n n) W := by
  obtain ⟨i0, hi0, hz0, hz1, hz2⟩ := info_parts info_u8
  have ht := Try.underlying22
  cases A with
  | none =>
    obtain rfl := hA rfl
    cases B <;> simp [Builtin.append_, run_underlying ht, sizeOf, typeInfo, hi0, Builtin.lenOf, Builtin.firstCells, loadCells, loadCellsFrom, storeCells]
  | some ad =>
    cases B <;> simp [Builtin.append_, run_underlying ht, sizeOf, typeInfo, hi0, Builtin.lenOf, Builtin.firstCells, loadCells, loadCellsFrom, storeCells]

/-- append(v[:n:n], ys...) as one step of a region that draws: v stays as it is; what comes is read -/
theorem step_app_full {ops : Array Oper} {o : Oper} {a : Act} {K : Act → World → Prop} {Q : Exit → Act → World → Prop} {E : Prop} {W : World} (hgd : o.guard = none) (s x : Operand)
    (ho : o.op = .call { callee := .builtin .append, args := #[s, x], argTypes := #[22, 22] })
    (F : Nat → Prop) (A B : Option Addr) (n m c : Nat) (xs ys : List Int) (hs : a.eval s = .slice A n n) (hx : a.eval x = .slice B m c) (hn : n = xs.length) (hm : m = ys.length) (HR1 : RB W F A xs) (HR2 : Kd.C (Kd.int .u8) W B m ys)
    (hl : n + m ≤ 140737488355328)
    (h : ∀ A1 c1 w1, n + m ≤ c1 → RB w1 (New W F) A1 (xs ++ ys) → Below W.heap.size W w1 → K (a.put o.dst (.slice A1 (n + m) c1)) w1) :
    if Region.wanted o (yielded ops a.tmps) = true then Oper.wp Try.prog o a W K Q else E := by
  subst hn hm
  have hAn : A = none → xs.length = 0 := fun e => by
    rcases Nat.eq_zero_or_pos xs.length with h0 | h0
    · exact h0
    · obtain ⟨ad, e', _⟩ := HR1.1.2.2 h0; rw [e] at e'; cases e'
  by_cases hy : ys.length = 0
  · obtain rfl : ys = [] := List.eq_nil_of_length_eq_zero hy
    have hw : Region.wanted o (yielded ops a.tmps) = true := by simp [Region.wanted, hgd]
    rw [if_pos hw]
    have hrun := run_append_empty W o.type A B xs.length c hAn
    unfold Oper.wp
    simp [execOp, ho, resolve, invoke, builtin, hs, hx, hrun, Result.andThen]
    exact h A xs.length W (by simp) (by rw [List.append_nil]; exact HR1.mono (fun k hk _ => .inl hk)) (Below.refl _ _)
  · obtain ⟨i0, hi0, hz0, hz1, hz2⟩ := info_parts info_u8
    have hr1 := reads_ints HR1.1
    have hr2 := reads_ints HR2
    obtain ⟨bd, rfl, hb⟩ := hr2.2.2 (by omega)
    refine step_append_grows hgd s x 22 ho 5 i0 (.int .u8 0) 1 1 Try.underlying22 hi0 hz0 hz1 hz2 rfl Nat.zero_lt_one A xs.length xs.length (nums .u8 xs) hs (fun e => ⟨hAn e, hAn e⟩) (by simp [nums]) ?_ bd ys.length c (nums .u8 ys) hx (by simp [nums]) ?_ ?_ (by omega) (by simp only [maxLen]; omega) (by omega) ?_
    · intro ad e j u hu
      have hj : j < xs.length := by
        have := (List.getElem?_eq_some_iff.1 hu).1
        simpa [nums] using this
      obtain ⟨ad', e', hc⟩ := hr1.2.2 (by omega)
      rw [e] at e'
      injection e' with e'
      subst e'
      rw [hc j hj]
      simpa [nums, List.getElem?_eq_getElem hj, List.getD_eq_getElem?_getD] using hu
    · intro j u hu
      have hj : j < ys.length := by
        have := (List.getElem?_eq_some_iff.1 hu).1
        simpa [nums] using this
      rw [hb j hj]
      simpa [nums, List.getElem?_eq_getElem hj, List.getD_eq_getElem?_getD] using hu
    · intro u hu
      obtain ⟨q, _, rfl⟩ := List.mem_map.1 hu
      rfl
    · intro v1 w1 hown hg
      have hob : OB w1 W.heap.size v1 (xs ++ ys) := by
        unfold OB
        rw [nums_append, List.length_append]
        exact hown
      obtain ⟨A1, c1, rfl, hc1, hrb⟩ := hob.rb
      rw [List.length_append] at hc1 ⊢
      refine h A1 c1 w1 hc1 (hrb.mono (fun k hk _ => .inr hk)) ⟨hg.os, hg.tape, hg.output, hg.size, fun k hk => hg.block k hk (by simp)⟩

/-! the tape, as a value -/
structure TS where
  room : Nat
  bs : List Int
  forced : Nat
def TS.ok (t : TS) : Prop := 1 ≤ t.room ∧ t.room ≤ 65536 ∧ t.bs.length ≤ t.room ∧ t.forced ≤ t.bs.length ∧ Bytes t.bs
def TS.append (t : TS) (ys : List Int) : TS × Int := if t.room - t.bs.length < ys.length then (t, 5) else ({ t with bs := t.bs ++ ys }, 0)
def TS.force (t : TS) : TS := { t with forced := t.bs.length }
/-- how many bytes a crash leaves -/
def TS.left (t : TS) (k : Int) : Nat := t.forced + (max (min k ((t.bs.length : Int) - t.forced)) 0).toNat
def TS.crash (t : TS) (k : Int) : TS := { t with bs := t.bs.take (t.left k), forced := t.left k }
def TS.cut (t : TS) (n : Int) : TS × Int := if n < 0 ∨ (t.bs.length : Int) < n then (t, 1) else ({ t with bs := t.bs.take n.toNat, forced := min t.forced n.toNat }, 0)
def TS.swap (t : TS) (ys : List Int) : TS × Int := if t.room < ys.length then (t, 5) else ({ t with bs := ys, forced := ys.length }, 0)
theorem TS.left_le {t : TS} (h : t.ok) (k : Int) : t.forced ≤ t.left k ∧ t.left k ≤ t.bs.length := by
  have := h.2.2.2.1
  unfold TS.left
  omega
theorem TS.append_ok {t : TS} (h : t.ok) {ys : List Int} (hy : Bytes ys) : (t.append ys).1.ok := by
  unfold TS.append
  split
  · exact h
  · obtain ⟨h1, h2, h3, h4, h5⟩ := h
    exact ⟨h1, h2, by simp only [List.length_append]; omega, by simp only [List.length_append]; omega, h5.append hy⟩
theorem TS.force_ok {t : TS} (h : t.ok) : t.force.ok := ⟨h.1, h.2.1, h.2.2.1, Nat.le_refl _, h.2.2.2.2⟩
theorem TS.crash_ok {t : TS} (h : t.ok) (k : Int) : (t.crash k).ok := by
  have := TS.left_le h k
  obtain ⟨h1, h2, h3, h4, h5⟩ := h
  refine ⟨h1, h2, ?_, ?_, h5.take _⟩
  · show (t.bs.take _).length ≤ t.room; rw [List.length_take]; omega
  · show t.left k ≤ (t.bs.take _).length; rw [List.length_take]; omega
theorem TS.cut_ok {t : TS} (h : t.ok) (n : Int) : (t.cut n).1.ok := by
  unfold TS.cut
  split
  · exact h
  · obtain ⟨h1, h2, h3, h4, h5⟩ := h
    refine ⟨h1, h2, ?_, ?_, h5.take _⟩
    · show (t.bs.take _).length ≤ t.room; rw [List.length_take]; omega
    · show min t.forced _ ≤ (t.bs.take _).length; rw [List.length_take]; omega
theorem TS.swap_ok {t : TS} (h : t.ok) {ys : List Int} (hy : Bytes ys) : (t.swap ys).1.ok := by
  unfold TS.swap
  split
  · exact h
  · obtain ⟨h1, h2, h3, h4, h5⟩ := h
    exact ⟨h1, h2, by show ys.length ≤ t.room; omega, Nat.le_refl _, hy⟩

/-! the tape in memory: its block p and its bytes' block are let by F -/
def TapeAt (W : World) (p : Nat) (t : TS) (F : Nat → Prop) : Prop :=
  ∃ A c, W.heap[p]? = some (.cells #[.int .i64 t.room, .slice A t.bs.length c, .int .i64 t.forced] 57 (0, 0)) ∧ t.bs.length ≤ c ∧ F p ∧ RB W (fun k => F k ∧ k ≠ p) A t.bs ∧ t.ok
end Go.Proofs.Ytcnohnieoecpdaa.Oct
