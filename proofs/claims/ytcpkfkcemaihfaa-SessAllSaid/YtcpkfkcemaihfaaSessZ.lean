import Derived.Test.YtcpkfkcemaihfaaSessY
import Derived.Laws.Bits128
/- Steps of two ends, as data; a frame that is lost. -/
namespace Go.Proofs.Ytcpkfkcemaihfaa.Oct
open Go.RowKit Go.Proofs.YtcpkfkcemaihfaaW.PrintWords Go.Proofs.Ytcpkfkcemaihfaa.M Go.Proofs.Ytcpkfkcemaihfaa.Rd
set_option linter.unusedVariables false
set_option linter.unusedSimpArgs false
theorem i64_and63 (n : Int) : bits .and .i64 n 63 = n % 64 := by
  have h63 : (BitVec.ofInt 64 63).toNat = 2 ^ 6 - 1 := by decide
  have key : (BitVec.ofInt 64 n &&& BitVec.ofInt 64 63).toNat = (n % ((2 ^ 64 : Nat) : Int)).toNat % 2 ^ 6 := by
    rw [BitVec.toNat_and, BitVec.toNat_ofInt, h63, Nat.and_two_pow_sub_one_eq_mod]
  show IntKind.i64.wrap ((BitVec.ofInt 64 n &&& BitVec.ofInt 64 63).toNat : Nat) = n % 64
  rw [key, IntKind.wrap_i64]
  omega
theorem and63 (n : Int) : ∃ K : Nat, bits .and .i64 n 63 = (K : Int) ∧ K < 64 := ⟨(n % 64).toNat, by rw [i64_and63]; omega, by omega⟩
abbrev PkT := Bool × Int × Int
abbrev pickK : Kd PkT := Kd.pair Kd.bool (Kd.pair (Kd.int .i64) (Kd.int .i64))
def PkG (o : PkT) : Prop := True ∧ (Lit.int .i64 o.2.1).wf = true ∧ (Lit.int .i64 o.2.2).wf = true
section
variable {H : Type} {enc : TypeId × Value → H} {w : World} {base : Nat} {spare : Nat → Bool} {held : Bool}
theorem pickRd : Rd enc Try.prog w base spare held 72 pickK PkG :=
  Rd.struct (ts := [4, 3, 3]) Try.underlying72 (by rfl) (by kernel_rfl) (by kernel_rfl) (RdL.cons (Rd.bool Try.underlying4 (by kernel_rfl)) (RdL.cons (Rd.int Try.underlying3 (by kernel_rfl)) (RdL.one (Rd.int Try.underlying3 (by kernel_rfl)))))
theorem picksRd : Rd enc Try.prog w base spare held 63 (Kd.slice 72 pickK) (fun xs => (∀ x ∈ xs, PkG x) ∧ xs.length * Try.prog.bytesOf 72 ≤ reachBytes) := Rd.slice Try.underlying63 (by kernel_rfl) pickRd
end
theorem pick_at {W : World} {A : Option Addr} {n : Nat} {l : List PkT} (h : pickK.C W A n l) {k : Nat} (hk : k < n) (z : PkT) :
    ∃ ad, A = some ad ∧ W.cell? (ad.add (k * 3)) = some (.bool (l.getD k z).1) ∧ W.cell? ⟨(ad.add (k * 3)).block, (ad.add (k * 3)).off + 1, none⟩ = some (.int .i64 (l.getD k z).2.1) ∧ W.cell? ⟨(ad.add (k * 3)).block, (ad.add (k * 3)).off + 2, none⟩ = some (.int .i64 (l.getD k z).2.2) := by
  obtain ⟨ad, c, e, hs, hK, hcell⟩ := Kd.C_get h z (k : Int) (by omega) (by omega)
  simp only [Int.toNat_natCast] at hK hcell
  obtain ⟨c0, _, rfl, h0, c2, c3, rfl, h2, h3⟩ := hK
  have h0' : c0 = [.bool (l.getD k z).1] := h0
  have h2' : c2 = [.int .i64 (l.getD k z).2.1] := h2
  have h3' : c3 = [.int .i64 (l.getD k z).2.2] := h3
  subst h0' h2' h3'
  exact ⟨ad, e, hcell 0 _ rfl, (by rw [← add_lit9]; exact hcell 1 _ rfl), (by rw [← add_lit9]; exact hcell 2 _ rfl)⟩
/-- one step of a region that draws: append(v[:k:k], v[k+1:]...), frames -/
theorem step_cut {ops : Array Oper} {o : Oper} {a : Act} {K : Act → World → Prop} {Q : Exit → Act → World → Prop} {E : Prop} {W : World} (hgd : o.guard = none) (s x : Operand)
    (ho : o.op = .call { callee := .builtin .append, args := #[s, x], argTypes := #[32, 32] })
    (A B : Option Addr) (n d k : Nat) (vs : List Value) (HO : OwnAt W 0 42 4 (.slice A n d) n vs) (h1 : ∀ u ∈ vs, u.oneCell' = true) (hk : k < n) (hl : n ≤ 1000000)
    (hs : a.eval s = .slice A k k) (hx : a.eval x = .slice B (n - (k + 1)) (d - (k + 1))) (hB : k + 1 < n → B = A.map (·.add ((k + 1) * 4)))
    (h : ∀ v1 w1, OwnAt w1 0 42 4 v1 (n - 1) (vs.take (k * 4) ++ vs.drop ((k + 1) * 4)) → W.grownBy w1 (Value.slice A n d).ownBlock → (v1.ownBlock = (Value.slice A n d).ownBlock ∨ ∃ b, v1.ownBlock = some b ∧ W.heap.size ≤ b) → K (a.put o.dst v1) w1) :
    if Region.wanted o (yielded ops a.tmps) = true then Oper.wp Try.prog o a W K Q else E := by
  obtain ⟨i0, hi0, hz0, hz1, hz2⟩ := info_parts info_frame
  have hvl := HO.1
  rcases HO.2 with ⟨_, h0⟩ | ⟨g, off, cap, cur, e, hb, hh, hc, hm, hcs, htk⟩
  · omega
  injection e with e1 e2 e3
  subst e1 e3
  have hown : OwnAt W 0 42 4 (.slice (some ⟨g, off, none⟩) k k) k (vs.take (k * 4)) := by
    refine ⟨by rw [List.length_take]; omega, .inr ⟨g, off, k, cur, rfl, hb, hh, Nat.le_refl _, by omega, by omega, ?_⟩⟩
    rw [← htk, List.take_take, Nat.min_eq_left (by omega)]
  have hcell : ∀ j u, (vs.drop ((k + 1) * 4))[j]? = some u → W.cell? (((⟨g, off, none⟩ : Addr).add ((k + 1) * 4)).add j) = some u := fun j u hu => by
    rw [List.getElem?_drop] at hu
    obtain ⟨ad, e, hc⟩ := OwnAt.cell HO hu
    injection e with e
    rw [Addr.add_add, e]
    exact hc
  refine step_append_at W hgd s x 32 ho 0 42 i0 _ 4 48 Try.underlying32 hi0 hz0 hz1 hz2 rfl (by decide) _ k _ hs hown B (n - (k + 1)) (d - (k + 1)) (vs.drop ((k + 1) * 4)) hx (by rw [List.length_drop]; omega) (fun h0 => ⟨_, hB (by omega), hcell⟩) (fun u hu => h1 u (List.mem_of_mem_drop hu)) (by simp only [maxLen]; omega) (by omega) (Nat.zero_le _) ?_
  rw [show k + (n - (k + 1)) = n - 1 by omega]
  exact h
theorem frames_one {vs : List Value} {ls : List FR} {P : Value → List Int → Prop} (hl : vs.length = ls.length * 4) (hP : ∀ u l, P u l → u.oneCell' = true)
    (h : ∀ (j : Nat) (f : FR), ls[j]? = some f → vs[4 * j]? = some (.int .u32 f.s) ∧ vs[4 * j + 1]? = some (.int .i64 f.q) ∧ vs[4 * j + 2]? = some (.int .i64 f.k) ∧ ∃ u, vs[4 * j + 3]? = some u ∧ P u f.d) : ∀ u ∈ vs, u.oneCell' = true := by
  intro u hu
  obtain ⟨q, hq, rfl⟩ := List.getElem_of_mem hu
  have hj : q / 4 < ls.length := by omega
  obtain ⟨e0, e1, e2, v, e3, hv⟩ := h (q / 4) _ (List.getElem?_eq_getElem hj)
  have hr : q = 4 * (q / 4) ∨ q = 4 * (q / 4) + 1 ∨ q = 4 * (q / 4) + 2 ∨ q = 4 * (q / 4) + 3 := by omega
  have hg := List.getElem?_eq_getElem hq
  rcases hr with hr | hr | hr | hr
  · rw [← hr, hg] at e0; injection e0 with e0; rw [e0]; rfl
  · rw [← hr, hg] at e1; injection e1 with e1; rw [e1]; rfl
  · rw [← hr, hg] at e2; injection e2 with e2; rw [e2]; rfl
  · rw [← hr, hg] at e3; injection e3 with e3; rw [e3]; exact hP v _ hv
theorem flab_cut {W : World} {o : Nat → Nat} {vs : List Value} {ls : List FR} {k : Nat} (hl : vs.length = ls.length * 4) (hk : k < ls.length)
    (h3 : ∀ (j : Nat) (f : FR), ls[j]? = some f → vs[4 * j]? = some (.int .u32 f.s) ∧ vs[4 * j + 1]? = some (.int .i64 f.q) ∧ vs[4 * j + 2]? = some (.int .i64 f.k) ∧ ∃ u, vs[4 * j + 3]? = some u ∧ QB W 0 u f.d ∧ ∀ k, u.ownBlock = some k → o k = 9) :
    ∀ (j : Nat) (f : FR), (ls.take k ++ ls.drop (k + 1))[j]? = some f → (vs.take (k * 4) ++ vs.drop ((k + 1) * 4))[4 * j]? = some (.int .u32 f.s) ∧ (vs.take (k * 4) ++ vs.drop ((k + 1) * 4))[4 * j + 1]? = some (.int .i64 f.q) ∧ (vs.take (k * 4) ++ vs.drop ((k + 1) * 4))[4 * j + 2]? = some (.int .i64 f.k) ∧ ∃ u, (vs.take (k * 4) ++ vs.drop ((k + 1) * 4))[4 * j + 3]? = some u ∧ QB W 0 u f.d ∧ ∀ k, u.ownBlock = some k → o k = 9 := by
  have htl : (vs.take (k * 4)).length = k * 4 := by rw [List.length_take]; omega
  have htk : (ls.take k).length = k := by rw [List.length_take]; omega
  intro j f hj
  rcases Nat.lt_or_ge j k with h | h
  · rw [List.getElem?_append_left (by omega), List.getElem?_take, if_pos h] at hj
    have := h3 j f hj
    rw [List.getElem?_append_left (by omega), List.getElem?_append_left (by omega), List.getElem?_append_left (by omega), List.getElem?_append_left (by omega), List.getElem?_take, List.getElem?_take, List.getElem?_take, List.getElem?_take, if_pos (by omega), if_pos (by omega), if_pos (by omega), if_pos (by omega)]
    exact this
  · rw [List.getElem?_append_right (by omega), htk, List.getElem?_drop, show k + 1 + (j - k) = j + 1 by omega] at hj
    have := h3 (j + 1) f hj
    rw [List.getElem?_append_right (by omega), List.getElem?_append_right (by omega), List.getElem?_append_right (by omega), List.getElem?_append_right (by omega), htl, List.getElem?_drop, List.getElem?_drop, List.getElem?_drop, List.getElem?_drop, show (k + 1) * 4 + (4 * j - k * 4) = 4 * (j + 1) by omega, show (k + 1) * 4 + (4 * j + 1 - k * 4) = 4 * (j + 1) + 1 by omega, show (k + 1) * 4 + (4 * j + 2 - k * 4) = 4 * (j + 1) + 2 by omega, show (k + 1) * 4 + (4 * j + 3 - k * 4) = 4 * (j + 1) + 3 by omega]
    exact this
end Go.Proofs.Ytcpkfkcemaihfaa.Oct
