import Derived.Test.YtcnohnieoecpdaaWalI
/- The plain law of WalBack. -/
namespace Go.Proofs.Ytcnohnieoecpdaa.Oct
open Go.RowKit Go.Proofs.YtcnohnieoecpdaaW.PrintWords Go.Proofs.Ytcnohnieoecpdaa.M
set_option linter.unusedVariables false
set_option linter.unusedSimpArgs false
theorem readL_whole {l : List Rc} (hg : ∀ r ∈ l, r.good) : readL 0 (allB l) = endsR 0 l := by
  have := readL_allB hg [] 0
  rw [List.append_nil, readL_nil, List.append_nil] at this
  exact this
/-- where each record ends -/
def cutsL (l : List Rc) : List Int := (endsR 0 l).map fun q => (q.1 : Int)
theorem endsR_snoc (l : List Rc) (r : Rc) : ∀ at_, endsR at_ (l ++ [r]) = endsR at_ l ++ [(at_ + (allB (l ++ [r])).length, r)] := by
  induction l with
  | nil => intro at_; simp [endsR, allB]
  | cons q l ih =>
    intro at_
    show (at_ + q.all.length, q) :: endsR (at_ + q.all.length) (l ++ [r]) = (at_ + q.all.length, q) :: endsR (at_ + q.all.length) l ++ _
    rw [ih, List.cons_append, List.cons_append, allB_cons, List.length_append, Nat.add_assoc]
theorem endsR_len (l : List Rc) : ∀ at_, (endsR at_ l).length = l.length := by
  induction l with
  | nil => intro _; rfl
  | cons r l ih => intro at_; simp [endsR, ih]
theorem endsR_get (l : List Rc) : ∀ at_ (j : Nat), j < l.length → (endsR at_ l)[j]?.map (·.1) = some (at_ + (allB (l.take (j + 1))).length) := by
  induction l with
  | nil => intro _ j h; simp at h
  | cons r l ih =>
    intro at_ j h
    cases j with
    | zero => simp [endsR, allB]
    | succ j =>
      simp only [List.length_cons] at h
      rw [List.take_succ_cons, allB_cons, List.length_append]
      show (endsR (at_ + r.all.length) l)[j]?.map (·.1) = _
      rw [ih _ j (by omega), Nat.add_assoc]
/-- a text of records that is cut is read up to the record that is cut -/
theorem readL_cut {l : List Rc} (hg : ∀ r ∈ l, r.good) {k n : Nat} (hk : k ≤ l.length) (h1 : (allB (l.take k)).length ≤ n) (h2 : k < l.length → n < (allB (l.take (k + 1))).length) (h3 : n ≤ (allB l).length) : readL 0 ((allB l).take n) = endsR 0 (l.take k) := by
  rcases Nat.lt_or_ge k l.length with h | h
  · have hs := split_at h (0, [])
    obtain ⟨r, hr⟩ : ∃ r, r = l.getD k (0, []) := ⟨_, rfl⟩
    have hrm : r ∈ l := by rw [hr]; exact rec_mem h _
    have h2 := h2 h
    rw [take_snoc h (0, []), allB_snoc, List.length_append, ← hr] at h2
    rw [← hr] at hs
    have e : allB l = allB (l.take k) ++ (r.all ++ allB (l.drop (k + 1))) := by
      conv => lhs; rw [hs, allB_app, allB_cons]
    rw [e, List.take_append, List.take_of_length_le h1, List.take_append_of_le_length (by omega), readL_allB (fun q hq => hg q (List.mem_of_mem_take hq)), readL_no (isR_cut (hg r hrm) (by omega)), List.append_nil]
  · have hkl : k = l.length := by omega
    subst hkl
    rw [List.take_length] at h1 ⊢
    rw [List.take_of_length_le (by omega), readL_whole hg]
end Go.Proofs.Ytcnohnieoecpdaa.Oct
