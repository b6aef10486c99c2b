import Derived.Test.YtcnohnieoecpdaaWalN
import Derived.Test.YtcnohnieoecpdaaCall
import Derived.Deep.RegionHeldLaw
/- The document's Read. -/
namespace Go.Proofs.Ytcnohnieoecpdaa.M
/-- a record stands at a place just if the bytes that it would have stand there -/
theorem isR_bytes {b : List Int} (hb : Bytes b) {i : Nat} (h7 : i + 7 ≤ b.length) {N : Nat} (hN : (N : Int) = 256 * b.getD i 0 + b.getD (i + 1) 0) :
    lenR (b.drop i) = N ∧ recR (b.drop i) = (b.getD (i + 2) 0, (b.take (i + 3 + N)).drop (i + 3)) ∧
    (isR (b.drop i) ↔ i + 7 + N ≤ b.length ∧ Rc.good (b.getD (i + 2) 0, (b.take (i + 3 + N)).drop (i + 3)) ∧ Rc.all (b.getD (i + 2) 0, (b.take (i + 3 + N)).drop (i + 3)) = (b.take (i + 7 + N)).drop i) := by
  obtain ⟨h1, h2, h3⟩ := isR_at h7 hN
  refine ⟨h1, h3, fun h => ?_, fun ⟨e1, e2, e3⟩ => ?_⟩
  · obtain ⟨g1, g2, _, _⟩ := isR_back (hb.drop i) h
    have hl := h.2.2.2.1
    rw [h1, List.length_drop] at hl
    rw [h3] at g1 g2
    rw [h1, take_of_drop, show i + (7 + N) = i + 7 + N by omega] at g2
    exact ⟨by omega, g1, g2⟩
  · have e : b.drop i = Rc.all (b.getD (i + 2) 0, (b.take (i + 3 + N)).drop (i + 3)) ++ (b.drop i).drop (7 + N) := by
      rw [e3, show i + 7 + N = i + (7 + N) by omega, ← take_of_drop, List.take_append_drop]
    rw [e]
    exact (isR_all e2 _).1
end Go.Proofs.Ytcnohnieoecpdaa.M
namespace Go.Proofs.Ytcnohnieoecpdaa.Oct
open Go.RowKit Go.Proofs.YtcnohnieoecpdaaW.PrintWords Go.Proofs.Ytcnohnieoecpdaa.M
set_option linter.unusedVariables false
set_option linter.unusedSimpArgs false
section
variable {ops : Array Oper} {rest : List Oper} {o : Oper} {a : Act} {Q : Exit → Act → World → Prop}
theorem app_rec {W : World} (base : Nat) (hgd : o.guard = none) (s x : Operand) (ho : o.op = .call { callee := .builtin .append, args := #[s, x], argTypes := #[30, 30] })
    (v : Value) (ls : List Rc) (r : Rc) (u : Value) (g : Nat) (hs : a.eval s = v) (hx : a.eval x = .slice (some ⟨g, 0, none⟩) 1 1) (HO : RW W base v ls) (hb : W.heap[g]? = some (.cells #[.int .i64 r.1, u] 24 (0, 0))) (HU : OB W base u r.2)
    (hbase : base ≤ W.heap.size) (hl : ls.length ≤ 10000000000)
    (h : ∀ v1 w1, RW w1 base v1 (ls ++ [r]) → W.grownBy w1 v.ownBlock → (∀ k, v.ownBlock = some k → base ≤ k) → wpList Try.prog ops Q rest (a.put o.dst v1) w1) :
    wpList Try.prog ops Q (o :: rest) a W := by
  obtain ⟨vs, e2, e3⟩ := HO
  obtain ⟨i0, hi0, hz0, hz1, hz2⟩ := info_parts info_rec
  obtain ⟨Au, cu, rfl, _⟩ := HU.reads
  obtain ⟨x0, x1, _, _⟩ := two_cells' hb
  refine wpList_append_own W hgd s x 30 ho base 24 i0 (.agg #[.int .i64 0, .slice none 0 0]) 2 32 Try.underlying30 hi0 hz0 hz1 hz2 rfl (by decide) v ls.length vs hs e2 ⟨g, 0, none⟩ 1 1 [.int .i64 r.1, .slice Au r.2.length cu] hx rfl ?_ (by simp [Value.oneCell']) (by simp only [maxLen]; omega) (by omega) hbase ?_
  · intro j u' hu'
    match j, hu' with
    | 0, hu' => simp at hu'; subst hu'; simpa [Addr.add] using x0
    | 1, hu' => simp at hu'; subst hu'; simpa [Addr.add] using x1
  · intro v1 w1 ho1 hg1 _
    exact h v1 w1 (RW.add e2 e3 HU ho1 (fun k hk hne => hg1.block k hk hne)) hg1 (fun k hk => own_base e2 k hk)
end
end Go.Proofs.Ytcnohnieoecpdaa.Oct
