import Derived.Test.YtpkclecgaheplaaRMath
/- Plain paths: no program in sight. -/
namespace Go.Proofs.YtpkclecgaheplaaR.M
abbrev Bag := List (List Int)
def Bag.ok (b : Bag) : Prop := b.length ≤ 256 ∧ ∀ l ∈ b, l.length ≤ 512 ∧ Bytes l
def sendB (b : Bag) (ys : List Int) : Bag × Int := if 512 < ys.length then (b, 2) else if 256 ≤ b.length then (b, 5) else (b ++ [ys], 0)
def thereB (b : Bag) (i : Int) : Int := if i < 0 ∨ (b.length : Int) ≤ i then 4 else 0
def takeB (b : Bag) (i : Int) : Bag × List Int × Int := if thereB b i = 0 then (b.eraseIdx i.toNat, b.getD i.toNat [], 0) else (b, [], 4)
def dblB (b : Bag) (i : Int) : Bag × Int := if thereB b i = 0 then sendB b (b.getD i.toNat []) else (b, 4)
def turnL (l : List Int) (at_ : Nat) (by_ : Int) : List Int := l.set at_ (((l.getD at_ 0).toNat ^^^ by_.toNat : Nat) : Int)
def turnB (b : Bag) (i at_ by_ : Int) : Bag × Int :=
  if thereB b i = 0 then (if at_ < 0 ∨ ((b.getD i.toNat []).length : Int) ≤ at_ then (b, 1) else (b.set i.toNat (turnL (b.getD i.toNat []) at_.toNat by_), 0)) else (b, 4)
theorem there_no {b : Bag} {i : Int} (h : i < 0 ∨ (b.length : Int) ≤ i) : thereB b i = 4 := by unfold thereB; rw [if_pos h]
theorem there_yes {b : Bag} {i : Int} (h : ¬ (i < 0 ∨ (b.length : Int) ≤ i)) : thereB b i = 0 := by unfold thereB; rw [if_neg h]
theorem Bag.ok_nil : Bag.ok [] := ⟨by simp, fun l h => by cases h⟩
theorem Bag.ok_snoc {b : Bag} (h : b.ok) (hl : b.length < 256) {ys : List Int} (hy : ys.length ≤ 512) (hb : Bytes ys) : Bag.ok (b ++ [ys]) := by
  refine ⟨by rw [List.length_append]; simp; omega, fun l hl => ?_⟩
  rcases List.mem_append.1 hl with h1 | h1
  · exact h.2 l h1
  · obtain rfl : l = ys := by simpa using h1
    exact ⟨hy, hb⟩
theorem Bag.ok_erase {b : Bag} (h : b.ok) (i : Nat) : Bag.ok (b.eraseIdx i) := ⟨Nat.le_trans (List.length_eraseIdx_le _ _) h.1, fun l hl => h.2 l (List.mem_of_mem_eraseIdx hl)⟩
theorem Bag.get_ok {b : Bag} (h : b.ok) (i : Nat) : (b.getD i []).length ≤ 512 ∧ Bytes (b.getD i []) := by
  rw [List.getD_eq_getElem?_getD]
  by_cases hi : i < b.length
  · rw [List.getElem?_eq_getElem hi]; exact h.2 _ (List.getElem_mem hi)
  · rw [List.getElem?_eq_none (by omega)]; exact ⟨by simp, Bytes.nil⟩
theorem turnL_bytes {l : List Int} (h : Bytes l) (n : Nat) {y : Int} (hy : Byte y) : Bytes (turnL l n y) := by
  unfold turnL
  refine h.set ?_ n
  have := h.getD n
  unfold Byte at *
  have hx := xor_byte (a := (l.getD n 0).toNat) (b := y.toNat) (by omega) (by omega)
  omega
theorem Bag.ok_set {b : Bag} (h : b.ok) (i : Nat) {l : List Int} (hl : l.length ≤ 512) (hb : Bytes l) : Bag.ok (b.set i l) := by
  refine ⟨by rw [List.length_set]; exact h.1, fun x hx => ?_⟩
  rcases List.mem_or_eq_of_mem_set hx with hx | rfl
  · exact h.2 x hx
  · exact ⟨hl, hb⟩
theorem sendB_ok {b : Bag} (h : b.ok) {ys : List Int} (hy : Bytes ys) : (sendB b ys).1.ok := by
  unfold sendB
  split
  · exact h
  split
  · exact h
  · exact Bag.ok_snoc h (by omega) (by omega) hy
theorem turnL_len (l : List Int) (n : Nat) (y : Int) : (turnL l n y).length = l.length := by unfold turnL; rw [List.length_set]
theorem turnL_twice {l : List Int} (hl : Bytes l) (n : Nat) (y : Int) : turnL (turnL l n y) n y = l := by
  by_cases hn : n < l.length
  · have hx := hl.getD n
    have h1 : (turnL l n y).getD n 0 = (((l.getD n 0).toNat ^^^ y.toNat : Nat) : Int) := by
      unfold turnL
      rw [List.getD_eq_getElem?_getD, List.getElem?_set_self hn]
      rfl
    have h2 : (((l.getD n 0).toNat ^^^ y.toNat) ^^^ y.toNat) = (l.getD n 0).toNat := by rw [Nat.xor_assoc, Nat.xor_self, Nat.xor_zero]
    show (turnL l n y).set n _ = l
    rw [h1, Int.toNat_natCast, h2, Int.toNat_of_nonneg hx.1]
    unfold turnL
    rw [List.set_set]
    apply List.ext_getElem
    · simp
    · intro j h3 h4
      rw [List.getElem_set]
      split
      · rename_i e
        subst e
        simp [List.getD_eq_getElem?_getD, List.getElem?_eq_getElem hn]
      · rfl
  · unfold turnL
    rw [List.set_eq_of_length_le (by rw [List.length_set]; omega), List.set_eq_of_length_le (by omega)]
theorem turnB_twice {b : Bag} (h : b.ok) (i a y : Int) : turnB (turnB b i a y).1 i a y = (b, (turnB b i a y).2) := by
  by_cases hi : thereB b i = 0
  · by_cases ha : a < 0 ∨ ((b.getD i.toNat []).length : Int) ≤ a
    · have e : turnB b i a y = (b, 1) := by unfold turnB; rw [if_pos hi, if_pos ha]
      rw [e]
      exact e
    · have hil : ¬ (i < 0 ∨ (b.length : Int) ≤ i) := fun hn => by rw [there_no hn] at hi; exact absurd hi (by decide)
      have hlt : i.toNat < b.length := by omega
      have e : turnB b i a y = (b.set i.toNat (turnL (b.getD i.toNat []) a.toNat y), 0) := by unfold turnB; rw [if_pos hi, if_neg ha]
      rw [e]
      have hg : (b.set i.toNat (turnL (b.getD i.toNat []) a.toNat y)).getD i.toNat [] = turnL (b.getD i.toNat []) a.toNat y := by
        rw [List.getD_eq_getElem?_getD, List.getElem?_set_self hlt]; rfl
      unfold turnB
      rw [there_yes (by show ¬ (i < 0 ∨ ((b.set i.toNat (turnL (b.getD i.toNat []) a.toNat y)).length : Int) ≤ i); rw [List.length_set]; exact hil), if_pos rfl, hg, turnL_len, if_neg ha, turnL_twice (Bag.get_ok h _).2, List.set_set]
      have : b.set i.toNat (b.getD i.toNat []) = b := by
        rw [List.getD_eq_getElem?_getD, List.getElem?_eq_getElem hlt]
        exact List.set_getElem_self hlt
      rw [this]
  · have e : turnB b i a y = (b, 4) := by unfold turnB; rw [if_neg hi]
    rw [e]
    exact e
end Go.Proofs.YtpkclecgaheplaaR.M
