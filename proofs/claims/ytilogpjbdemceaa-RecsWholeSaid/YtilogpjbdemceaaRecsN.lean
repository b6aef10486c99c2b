import Derived.Test.YtilogpjbdemceaaRecsM
/- Plain records one behind the other, taken in pieces: no program in sight. -/
namespace Go.Proofs.Ytilogpjbdemceaa.M
def recAll (rs : List (List Int)) : List Int := (rs.map fun d => (recM d).1).flatten
theorem recAll_nil : recAll [] = [] := rfl
theorem recAll_cons (d : List Int) (rs : List (List Int)) : recAll (d :: rs) = (recM d).1 ++ recAll rs := rfl
theorem recAll_snoc (rs : List (List Int)) (d : List Int) : recAll (rs ++ [d]) = recAll rs ++ (recM d).1 := by unfold recAll; simp
theorem recM_short {d : List Int} (h : d.length ≤ 200) : (recM d).2 = 0 ∧ (recM d).1.length = d.length + 2 ∧ (recM d).1 = ((d.length + 2 : Nat) : Int) / 256 :: ((d.length + 2 : Nat) : Int) % 256 :: d := by
  unfold recM
  rw [if_neg (by omega)]
  exact ⟨rfl, by simp, rfl⟩
theorem recAll_drop {rs : List (List Int)} {n : Nat} (h : n < rs.length) : recAll (rs.drop n) = (recM (rs.getD n [])).1 ++ recAll (rs.drop (n + 1)) := by
  rw [List.drop_eq_getElem_cons h, recAll_cons, List.getD_eq_getElem?_getD, List.getElem?_eq_getElem h]
  rfl
theorem recAll_len {rs : List (List Int)} (h : ∀ d ∈ rs, d.length ≤ 200) : (recAll rs).length ≤ 202 * rs.length := by
  induction rs with
  | nil => simp [recAll]
  | cons d rs ih =>
    rw [recAll_cons, List.length_append, List.length_cons]
    have h1 := (recM_short (h d (List.mem_cons_self))).2.1
    have h2 := h d (List.mem_cons_self)
    have h3 := ih (fun x hx => h x (List.mem_cons_of_mem _ hx))
    omega
structure Inv (rs : List (List Int)) (n : Nat) (s : SS) (R pc : List Int) : Prop where
  ended : s.ended = false
  eq : pc ++ (s.held ++ R) = recAll (rs.drop n)
  beg : pc.length = 0 → s.left = 0
  mid : 0 < pc.length → n < rs.length ∧ s.left + pc.length = (rs.getD n []).length + 2 ∧ 0 < s.left
theorem Inv.start (rs : List (List Int)) : Inv rs 0 ⟨0, [], false⟩ (recAll rs) [] := ⟨rfl, by simp, fun _ => rfl, fun h => by simp at h⟩
theorem Inv.put {rs : List (List Int)} {n : Nat} {s : SS} {us vs pc : List Int} (h : Inv rs n s (us ++ vs) pc) : Inv rs n ⟨s.left, s.held ++ us, s.ended⟩ vs pc :=
  ⟨h.ended, by have := h.eq; simp only [List.append_assoc] at this ⊢; exact this, h.beg, h.mid⟩
theorem Inv.done {rs : List (List Int)} {s : SS} {R pc : List Int} (h : Inv rs rs.length s R pc) : s.held = [] ∧ R = [] := by
  have := h.eq
  rw [List.drop_length, recAll_nil] at this
  have h2 := (List.append_eq_nil_iff.1 this).2
  exact List.append_eq_nil_iff.1 h2
theorem front_eq {a b c d : List Int} (h : a ++ b = c ++ d) (hl : a.length = c.length) : a = c ∧ b = d := List.append_inj h hl
theorem Inv.get {rs : List (List Int)} {n : Nat} {s : SS} {R pc : List Int} (h : Inv rs n s R pc) (hn : n < rs.length) (hs : ∀ d ∈ rs, d.length ≤ 200) {t : Int} (ht : 1 ≤ t) :
    ((s.get t).err = 140 ∧ (s.get t).st = s ∧ (s.get t).out = [] ∧ 0 < R.length) ∨
    ((s.get t).err = 0 ∧ 0 < (s.get t).out.length ∧ (s.get t).st.held.length + (s.get t).out.length = s.held.length ∧
      (((s.get t).whole = false ∧ Inv rs n (s.get t).st R (pc ++ (s.get t).out)) ∨ ((s.get t).whole = true ∧ pc ++ (s.get t).out = (recM (rs.getD n [])).1 ∧ Inv rs (n + 1) (s.get t).st R []))) := by
  have hdl : (rs.getD n []).length ≤ 200 := by
    rw [List.getD_eq_getElem?_getD, List.getElem?_eq_getElem hn]
    exact hs _ (List.getElem_mem hn)
  obtain ⟨_, hrl, hrf⟩ := recM_short hdl
  have heq := h.eq
  rw [recAll_drop hn] at heq
  have hlen := congrArg List.length heq
  simp only [List.length_append] at hlen
  have hlk : s.lacks = 140 := by unfold SS.lacks; rw [h.ended]; rfl
  have ht' : ¬ t < 1 := by omega
  -- the number of bytes that are left of the record
  have hhead : (s.head = (0, 140) ∧ 0 < R.length) ∨ (s.head = ((rs.getD n []).length + 2 - pc.length, 0) ∧ pc.length < (rs.getD n []).length + 2) := by
    by_cases hp : pc.length = 0
    · have hl := h.beg hp
      by_cases h2 : s.held.length < 2
      · refine .inl ⟨?_, by omega⟩
        rw [SS.head_few hl h2, h.ended, hlk]
        rfl
      · have hpn : pc = [] := List.eq_nil_of_length_eq_zero hp
        have hlen2 : s.len = (rs.getD n []).length + 2 := by
          rw [hpn, List.nil_append, hrf] at heq
          obtain ⟨x, y, r, hxy⟩ : ∃ x y r, s.held = x :: y :: r := by
            match hh : s.held with
            | [] => rw [hh] at h2; simp at h2
            | [_] => rw [hh] at h2; simp at h2
            | x :: y :: r => exact ⟨x, y, r, rfl⟩
          rw [hxy] at heq
          simp only [List.cons_append, List.cons.injEq] at heq
          unfold SS.len
          rw [hxy, heq.1, heq.2.1]
          show (256 * ((((rs.getD n []).length + 2 : Nat) : Int) / 256) + (((rs.getD n []).length + 2 : Nat) : Int) % 256).toNat = _
          omega
        refine .inr ⟨?_, by omega⟩
        rw [SS.head_good hl h2 (by omega), hlen2, hp]
        rfl
    · obtain ⟨_, hm, hm0⟩ := h.mid (by omega)
      refine .inr ⟨?_, by omega⟩
      rw [SS.head_rec (by omega)]
      congr 1
      omega
  rcases hhead with ⟨hh, hR⟩ | ⟨hh, hpl⟩
  · refine .inl ?_
    rw [SS.get_head ht' hh (by decide)]
    exact ⟨rfl, rfl, rfl, hR⟩
  · generalize ha : (rs.getD n []).length + 2 - pc.length = a at hh
    by_cases hf : s.held.length < min t.toNat a
    · refine .inl ?_
      rw [SS.get_few ht' hh hf]
      exact ⟨hlk, rfl, rfl, by omega⟩
    · refine .inr ?_
      rw [SS.get_good ht' hh hf]
      generalize hm : min t.toNat a = m at hf
      have hm1 : m ≤ s.held.length := by omega
      have hm0 : 0 < m := by omega
      have hma : m ≤ a := by omega
      have hol : (s.held.take m).length = m := by rw [List.length_take]; omega
      refine ⟨rfl, by show 0 < (s.held.take m).length; omega, by show (s.held.drop m).length + (s.held.take m).length = _; rw [List.length_drop, hol]; omega, ?_⟩
      have heq2 : (pc ++ s.held.take m) ++ (s.held.drop m ++ R) = recAll (rs.drop n) := by
        rw [← h.eq, List.append_assoc, ← List.append_assoc (s.held.take m), List.take_append_drop]
      by_cases hw : a = m
      · refine .inr ⟨by show (a - m == 0) = true; simp; omega, ?_⟩
        have h3 := heq2
        rw [recAll_drop hn] at h3
        obtain ⟨h4, h5⟩ := front_eq h3 (by rw [List.length_append, hol, hrl]; omega)
        exact ⟨h4, h.ended, by simpa using h5, fun _ => by show a - m = 0; omega, fun h => by simp at h⟩
      · refine .inl ⟨by show (a - m == 0) = false; exact beq_eq_false_iff_ne.2 (by omega), h.ended, heq2, fun h0 => ?_, fun _ => ⟨hn, ?_, ?_⟩⟩
        · rw [List.length_append, hol] at h0; omega
        · show a - m + (pc ++ s.held.take m).length = _
          rw [List.length_append, hol]; omega
        · show 0 < a - m; omega
end Go.Proofs.Ytilogpjbdemceaa.M
