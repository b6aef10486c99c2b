import Derived.Test.YtdagpeencafheaaOctR
/- The plain law of the walk over parts. -/
namespace Go.Proofs.Ytdagpeencafheaa.Oct
open Go.RowKit Go.Proofs.YtdagpeencafheaaW.PrintWords Go.Proofs.Ytdagpeencafheaa.M
set_option linter.unusedVariables false
set_option linter.unusedSimpArgs false
/-- the parts that are told, with their places; 'none': a part that is not whole -/
def walkL (at_ : Nat) (rest : List Int) : List (Nat × Option (List Int)) :=
  match rest with
  | [] => []
  | [_] => [(at_, none)]
  | x :: y :: r =>
    if r.length < (256 * x + y).toNat then [(at_, none)]
    else (at_, some (r.take (256 * x + y).toNat)) :: walkL (at_ + 2 + (256 * x + y).toNat) (r.drop (256 * x + y).toNat)
termination_by rest.length
decreasing_by simp; omega
theorem walkL_nil (at_ : Nat) : walkL at_ [] = [] := by unfold walkL; rfl
theorem walkL_one (at_ : Nat) (x : Int) : walkL at_ [x] = [(at_, none)] := by unfold walkL; rfl
theorem walkL_short (at_ : Nat) (x y : Int) (r : List Int) (h : r.length < (256 * x + y).toNat) : walkL at_ (x :: y :: r) = [(at_, none)] := by unfold walkL; rw [if_pos h]
theorem walkL_step (at_ : Nat) (x y : Int) (r : List Int) (h : ¬ r.length < (256 * x + y).toNat) : walkL at_ (x :: y :: r) = (at_, some (r.take (256 * x + y).toNat)) :: walkL (at_ + 2 + (256 * x + y).toNat) (r.drop (256 * x + y).toNat) := by
  rw [walkL, if_neg h]
def runL : List (Nat × Option (List Int)) → Nat → Except (Int × Int) (List (List Int))
  | [], _ => .ok []
  | (at_, none) :: _, _ => .error (at_, 11)
  | (_, some p) :: t, k => if 1000 ≤ k then .error (0, 2) else withOut [p] (runL t (k + 1))
theorem runL_some (a : Nat) (p : List Int) (t : List (Nat × Option (List Int))) (k : Nat) : runL ((a, some p) :: t) k = if 1000 ≤ k then .error (0, 2) else withOut [p] (runL t (k + 1)) := rfl
theorem run_walk : ∀ (m : Nat) (rest : List Int) (at_ k : Nat), rest.length ≤ m → splitR at_ rest k = runL (walkL at_ rest) k := by
  intro m
  induction m with
  | zero =>
    intro rest at_ k h
    have : rest = [] := List.eq_nil_of_length_eq_zero (by omega)
    subst this
    rw [splitR_nil, walkL_nil]
    rfl
  | succ m ih =>
    intro rest at_ k h
    match rest, h with
    | [], _ => rw [splitR_nil, walkL_nil]; rfl
    | [x], _ => rw [splitR_one, walkL_one]; rfl
    | x :: y :: r, h =>
      by_cases hs : r.length < (256 * x + y).toNat
      · rw [splitR_short _ _ _ _ _ hs, walkL_short _ _ _ _ hs]; rfl
      · rw [walkL_step _ _ _ _ hs]
        by_cases hk : 1000 ≤ k
        · rw [splitR_long _ _ _ _ _ hs hk]
          unfold runL
          rw [if_pos hk]
        · rw [splitR_step _ _ _ _ _ hs hk]
          conv => rhs; unfold runL
          rw [if_neg hk, ih _ _ _ (by simp at h ⊢; omega)]
theorem split_walk (b : List Int) : splitM b = runL (walkL 0 b) 0 := run_walk b.length b 0 0 (Nat.le_refl _)
/-- a front that is whole -/
theorem run_front (l : List (Nat × List Int)) : ∀ (t : List (Nat × Option (List Int))) (k : Nat), k + l.length ≤ 1000 → runL (l.map (fun q => (q.1, some q.2)) ++ t) k = withOut (l.map (·.2)) (runL t (k + l.length)) := by
  induction l with
  | nil => intro t k _; exact (withOut_nil _).symm
  | cons q l ih =>
    intro t k hk
    simp only [List.length_cons] at hk
    rw [List.map_cons, List.cons_append, runL_some, if_neg (by omega), ih t (k + 1) (by omega), withOut_app]
    simp only [List.map_cons, List.length_cons, List.singleton_append]
    rw [show k + 1 + l.length = k + (l.length + 1) by omega]
theorem run_whole (l : List (Nat × List Int)) (h : l.length ≤ 1000) : runL (l.map (fun q => (q.1, some q.2))) 0 = .ok (l.map (·.2)) := by
  have := run_front l [] 0 (by omega)
  rw [List.append_nil] at this
  rw [this]
  simp [runL, withOut]
theorem run_none (l : List (Nat × List Int)) (h : l.length ≤ 1000) (at_ : Nat) (t : List (Nat × Option (List Int))) : runL (l.map (fun q => (q.1, some q.2)) ++ (at_, none) :: t) 0 = .error ((at_ : Int), 11) := by
  rw [run_front l _ 0 (by omega)]
  simp [runL, withOut]
theorem run_many (l : List (Nat × List Int)) (h : l.length = 1000) (at_ : Nat) (p : List Int) (t : List (Nat × Option (List Int))) : runL (l.map (fun q => (q.1, some q.2)) ++ (at_, some p) :: t) 0 = .error (0, 2) := by
  rw [run_front l _ 0 (by omega)]
  simp only [runL]
  rw [if_pos (by omega)]
  rfl
end Go.Proofs.Ytdagpeencafheaa.Oct
