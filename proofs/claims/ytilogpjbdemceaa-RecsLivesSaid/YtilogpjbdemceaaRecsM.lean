import Derived.Test.YtilogpjbdemceaaMath
/- Plain streams of records: no program in sight. -/
namespace Go.Proofs.Ytilogpjbdemceaa.M
structure SS where
  left : Nat
  held : List Int
  ended : Bool
def SS.ok (s : SS) : Prop := s.left ≤ 32767 ∧ s.held.length ≤ 65536 ∧ Bytes s.held
def SS.put (s : SS) (ys : List Int) : SS × Int := if s.ended then (s, 110) else if 65536 - s.held.length < ys.length then (s, 5) else ({ s with held := s.held ++ ys }, 0)
def SS.fin (s : SS) : SS × Int := if s.ended then (s, 110) else ({ s with ended := true }, 0)
def SS.lacks (s : SS) : Int := if s.ended then 110 else 140
/-- the length that stands ahead -/
def SS.len (s : SS) : Nat := (256 * s.held.getD 0 0 + s.held.getD 1 0).toNat
/-- what is left of the record, or the error -/
def SS.head (s : SS) : Nat × Int :=
  if s.left = 0 then
    if s.held.length < 2 then (0, if s.ended && s.held.length == 0 then 4 else s.lacks)
    else if s.len < 2 ∨ 32767 < s.len then (0, 40) else (s.len, 0)
  else (s.left, 0)
structure Got where
  st : SS
  out : List Int
  whole : Bool
  err : Int
def SS.get (s : SS) (n : Int) : Got :=
  if n < 1 then ⟨s, [], false, 1⟩
  else if s.head.2 ≠ 0 then ⟨s, [], false, s.head.2⟩
  else if s.held.length < min n.toNat s.head.1 then ⟨s, [], false, s.lacks⟩
  else ⟨⟨s.head.1 - min n.toNat s.head.1, s.held.drop (min n.toNat s.head.1), s.ended⟩, s.held.take (min n.toNat s.head.1), s.head.1 - min n.toNat s.head.1 == 0, 0⟩
theorem SS.lacks_ne (s : SS) : s.lacks ≠ 0 := by unfold SS.lacks; split <;> decide
theorem SS.put_ok {s : SS} (h : s.ok) {ys : List Int} (hy : Bytes ys) : (s.put ys).1.ok := by
  unfold SS.put
  split
  · exact h
  split
  · exact h
  · exact ⟨h.1, by show (s.held ++ ys).length ≤ _; rw [List.length_append]; have := h.2.1; omega, h.2.2.append hy⟩
theorem SS.fin_ok {s : SS} (h : s.ok) : s.fin.1.ok := by
  unfold SS.fin
  split
  · exact h
  · exact h
theorem SS.head_le {s : SS} (h : s.ok) : s.head.1 ≤ 32767 := by
  unfold SS.head
  split
  · split
    · exact Nat.zero_le _
    split
    · exact Nat.zero_le _
    · show s.len ≤ _; omega
  · exact h.1
theorem SS.get_ok {s : SS} (h : s.ok) (n : Int) : (s.get n).st.ok := by
  unfold SS.get
  split
  · exact h
  split
  · exact h
  split
  · exact h
  · have := SS.head_le h
    exact ⟨by show s.head.1 - _ ≤ _; omega, by show (s.held.drop _).length ≤ _; rw [List.length_drop]; have := h.2.1; omega, h.2.2.drop _⟩
theorem SS.get_out {s : SS} (h : s.ok) (n : Int) : (s.get n).out.length ≤ 32767 ∧ Bytes (s.get n).out := by
  have h0 : (([] : List Int).length ≤ 32767) ∧ Bytes [] := ⟨by simp, Bytes.nil⟩
  unfold SS.get
  split
  · exact h0
  split
  · exact h0
  split
  · exact h0
  · have := SS.head_le h
    exact ⟨by show (s.held.take _).length ≤ _; rw [List.length_take]; omega, h.2.2.take _⟩
theorem SS.head_rec {s : SS} (h : s.left ≠ 0) : s.head = (s.left, 0) := by unfold SS.head; rw [if_neg h]
theorem SS.head_few {s : SS} (h : s.left = 0) (h2 : s.held.length < 2) : s.head = (0, if s.ended && s.held.length == 0 then 4 else s.lacks) := by unfold SS.head; rw [if_pos h, if_pos h2]
theorem SS.head_bad {s : SS} (h : s.left = 0) (h2 : ¬ s.held.length < 2) (h3 : s.len < 2 ∨ 32767 < s.len) : s.head = (0, 40) := by unfold SS.head; rw [if_pos h, if_neg h2, if_pos h3]
theorem SS.head_good {s : SS} (h : s.left = 0) (h2 : ¬ s.held.length < 2) (h3 : ¬ (s.len < 2 ∨ 32767 < s.len)) : s.head = (s.len, 0) := by unfold SS.head; rw [if_pos h, if_neg h2, if_neg h3]
theorem SS.get_arg {s : SS} {n : Int} (h : n < 1) : s.get n = ⟨s, [], false, 1⟩ := by unfold SS.get; rw [if_pos h]
theorem SS.get_head {s : SS} {n : Int} (h : ¬ n < 1) {a : Nat} {e : Int} (h2 : s.head = (a, e)) (he : e ≠ 0) : s.get n = ⟨s, [], false, e⟩ := by unfold SS.get; rw [if_neg h, h2, if_pos he]
theorem SS.get_few {s : SS} {n : Int} (h : ¬ n < 1) {a : Nat} (h2 : s.head = (a, 0)) (h3 : s.held.length < min n.toNat a) : s.get n = ⟨s, [], false, s.lacks⟩ := by unfold SS.get; rw [if_neg h, h2, if_neg (by simp), if_pos h3]
theorem SS.get_good {s : SS} {n : Int} (h : ¬ n < 1) {a : Nat} (h2 : s.head = (a, 0)) (h3 : ¬ s.held.length < min n.toNat a) :
    s.get n = ⟨⟨a - min n.toNat a, s.held.drop (min n.toNat a), s.ended⟩, s.held.take (min n.toNat a), a - min n.toNat a == 0, 0⟩ := by unfold SS.get; rw [if_neg h, h2, if_neg (by simp), if_neg h3]
theorem SS.put_cases (s : SS) (ys : List Int) : (s.put ys = (s, 110)) ∨ (s.put ys = (s, 5)) ∨ (s.put ys = ({ s with held := s.held ++ ys }, 0) ∧ s.held.length + ys.length ≤ 65536 ∨ s.put ys = ({ s with held := s.held ++ ys }, 0) ∧ ys.length = 0) := by
  unfold SS.put
  split
  · exact .inl rfl
  split
  · exact .inr (.inl rfl)
  · by_cases h : ys.length = 0
    · exact .inr (.inr (.inr ⟨rfl, h⟩))
    · exact .inr (.inr (.inl ⟨rfl, by omega⟩))
theorem SS.get_cases (s : SS) (n : Int) : ((s.get n).err ≠ 0 ∧ (s.get n).st = s ∧ (s.get n).out = [] ∧ (s.get n).whole = false) ∨
    ((s.get n).err = 0 ∧ ∃ m : Nat, (m : Int) ≤ n ∧ m ≤ s.held.length ∧ (s.get n).out = s.held.take m ∧ (s.get n).st.held = s.held.drop m) := by
  unfold SS.get
  split
  · exact .inl ⟨by show (1 : Int) ≠ 0; decide, rfl, rfl, rfl⟩
  split
  · rename_i h; exact .inl ⟨h, rfl, rfl, rfl⟩
  split
  · exact .inl ⟨SS.lacks_ne s, rfl, rfl, rfl⟩
  · exact .inr ⟨rfl, min n.toNat s.head.1, by omega, by omega, rfl, rfl⟩
theorem SS.fin_held (s : SS) : s.fin.1.held = s.held := by unfold SS.fin; split <;> rfl
/-- a record of data -/
def recM (d : List Int) : List Int × Int := if 32765 < d.length then ([], 2) else (((d.length + 2 : Nat) : Int) / 256 :: ((d.length + 2 : Nat) : Int) % 256 :: d, 0)
end Go.Proofs.Ytilogpjbdemceaa.M
