/- Plain arithmetic of the sums, numbers and lists of chapter 1: no program in sight. -/
namespace Go.Proofs.Ytdagpeencafheaa.M

/-- one byte taken into the two running sums -/
def stepS (p : Int × Int) (x : Int) : Int × Int := ((p.1 + x) % 65521, (p.2 + (p.1 + x) % 65521) % 65521)
def sumP (xs : List Int) : Int × Int := xs.foldl stepS (1, 0)
def sumOf (xs : List Int) : Int := (sumP xs).2 * 65536 + (sumP xs).1

def Byte (x : Int) : Prop := 0 ≤ x ∧ x < 256
def Bytes (xs : List Int) : Prop := ∀ x ∈ xs, Byte x

theorem fold_range (xs : List Int) : ∀ p : Int × Int, (0 ≤ p.1 ∧ p.1 < 65521) → (0 ≤ p.2 ∧ p.2 < 65521) →
    (0 ≤ (xs.foldl stepS p).1 ∧ (xs.foldl stepS p).1 < 65521) ∧ (0 ≤ (xs.foldl stepS p).2 ∧ (xs.foldl stepS p).2 < 65521) := by
  induction xs with
  | nil => intro p h1 h2; exact ⟨h1, h2⟩
  | cons x xs ih =>
    intro p _ _
    exact ih (stepS p x) (by unfold stepS; dsimp only; omega) (by unfold stepS; dsimp only; omega)
theorem sumP_range (xs : List Int) : (0 ≤ (sumP xs).1 ∧ (sumP xs).1 < 65521) ∧ (0 ≤ (sumP xs).2 ∧ (sumP xs).2 < 65521) := fold_range xs (1, 0) (by decide) (by decide)
theorem sumP_take (xs : List Int) (k : Nat) (h : k < xs.length) : sumP (xs.take (k + 1)) = stepS (sumP (xs.take k)) (xs.getD k 0) := by
  unfold sumP
  rw [List.take_succ_eq_append_getElem h, List.foldl_append, List.getD_eq_getElem?_getD, List.getElem?_eq_getElem h]
  rfl
theorem sumOf_range (xs : List Int) : 0 ≤ sumOf xs ∧ sumOf xs < 4294967296 := by
  have := sumP_range xs
  unfold sumOf
  omega
theorem Bytes.getD {xs : List Int} (h : Bytes xs) (k : Nat) : Byte (xs.getD k 0) := by
  rw [List.getD_eq_getElem?_getD]
  by_cases hk : k < xs.length
  · rw [List.getElem?_eq_getElem hk]; exact h _ (List.getElem_mem hk)
  · rw [List.getElem?_eq_none (by omega)]; exact ⟨by decide, by decide⟩
theorem Bytes.append {xs ys : List Int} (h : Bytes xs) (k : Bytes ys) : Bytes (xs ++ ys) := fun x hx => (List.mem_append.1 hx).elim (h x) (k x)
theorem Bytes.nil : Bytes [] := fun x hx => by cases hx
theorem Bytes.cons {x : Int} {xs : List Int} (h : Byte x) (k : Bytes xs) : Bytes (x :: xs) := fun y hy => by
  rcases List.mem_cons.1 hy with rfl | hy
  · exact h
  · exact k _ hy
theorem Bytes.take {xs : List Int} (h : Bytes xs) (k : Nat) : Bytes (xs.take k) := fun x hx => h x (List.mem_of_mem_take hx)
theorem Bytes.drop {xs : List Int} (h : Bytes xs) (k : Nat) : Bytes (xs.drop k) := fun x hx => h x (List.mem_of_mem_drop hx)

/-! numbers as bytes, the greatest first -/
def beAt (v : Int) (n i : Nat) : Int := v / 2 ^ (8 * (n - 1 - i)) % 256
def beB (v : Int) (n : Nat) : List Int := (List.range n).map (beAt v n)
def bePart (v : Int) (n i : Nat) : List Int := (List.range n).map fun j => if n ≤ i + j then beAt v n j else 0
/-- what Put tells: the bytes, the error -/
def putM (v n : Int) : List Int × Int := if n < 1 ∨ 8 < n then ([], 1) else if n < 8 ∧ 0 < v / 2 ^ (8 * n.toNat) then ([], 10) else (beB v n.toNat, 0)
theorem beB_length (v : Int) (n : Nat) : (beB v n).length = n := by simp [beB]
theorem bePart_length (v : Int) (n i : Nat) : (bePart v n i).length = n := by simp [bePart]
theorem bePart_zero (v : Int) (n : Nat) : bePart v n 0 = List.replicate n 0 := by
  apply List.ext_getElem
  · simp [bePart]
  · intro j h1 h2
    have : j < n := by simpa [bePart] using h1
    simp [bePart, show ¬ n ≤ j by omega]
theorem bePart_full (v : Int) (n : Nat) : bePart v n n = beB v n := by
  apply List.ext_getElem
  · simp [bePart, beB]
  · intro j h1 h2
    simp [bePart, beB]
theorem bePart_step (v : Int) (n i : Nat) (h : i < n) : (bePart v n i).set (n - 1 - i) (v / 2 ^ (8 * i) % 256) = bePart v n (i + 1) := by
  apply List.ext_getElem
  · simp [bePart]
  · intro j h1 h2
    have hj : j < n := by simpa [bePart] using h2
    rw [List.getElem_set]
    by_cases e : n - 1 - i = j
    · rw [if_pos e]
      simp only [bePart, List.getElem_map, List.getElem_range]
      rw [if_pos (by omega)]
      unfold beAt
      rw [show n - 1 - j = i by omega]
    · rw [if_neg e]
      simp only [bePart, List.getElem_map, List.getElem_range]
      by_cases e2 : n ≤ i + j
      · rw [if_pos e2, if_pos (by omega)]
      · rw [if_neg e2, if_neg (by omega)]
theorem beAt_byte (v : Int) (n i : Nat) : Byte (beAt v n i) := by unfold beAt Byte; omega
theorem beB_bytes (v : Int) (n : Nat) : Bytes (beB v n) := fun x hx => by
  obtain ⟨i, _, rfl⟩ := List.mem_map.1 hx
  exact beAt_byte v n i
theorem putM_bytes (v n : Int) : Bytes (putM v n).1 := by
  unfold putM
  split
  · exact Bytes.nil
  · split
    · exact Bytes.nil
    · exact beB_bytes _ _
theorem putM_len (v n : Int) : (putM v n).1.length ≤ 8 := by
  unfold putM
  split
  · simp
  · split
    · simp
    · rw [beB_length]; omega

/-! digits -/
def hexD (d : Int) : Int := if d < 10 then 48 + d else 87 + d
def hexB (xs : List Int) : List Int := xs.flatMap fun x => [hexD (x / 16), hexD (x % 16)]
theorem hexB_length (xs : List Int) : (hexB xs).length = 2 * xs.length := by
  induction xs with
  | nil => rfl
  | cons x xs ih =>
    have : hexB (x :: xs) = [hexD (x / 16), hexD (x % 16)] ++ hexB xs := rfl
    rw [this, List.length_append, ih]
    simp; omega
theorem hexB_take (xs : List Int) (k : Nat) (h : k < xs.length) : hexB (xs.take (k + 1)) = hexB (xs.take k) ++ [hexD (xs.getD k 0 / 16), hexD (xs.getD k 0 % 16)] := by
  rw [List.take_succ_eq_append_getElem h, List.getD_eq_getElem?_getD, List.getElem?_eq_getElem h]
  unfold hexB
  rw [List.flatMap_append]
  rfl

/-! the sums in closed form -/
def wsum : List Int → Int
  | [] => 0
  | x :: xs => ((xs.length : Int) + 1) * x + wsum xs
theorem fold_low (xs : List Int) : ∀ p : Int × Int, 0 ≤ p.1 → p.1 < 65521 → (xs.foldl stepS p).1 = (p.1 + xs.sum) % 65521 := by
  induction xs with
  | nil => intro p h0 h1; simp only [List.foldl_nil, List.sum_nil]; omega
  | cons x xs ih =>
    intro p h0 h1
    rw [List.foldl_cons, ih _ (by unfold stepS; dsimp only; omega) (by unfold stepS; dsimp only; omega), List.sum_cons]
    unfold stepS
    dsimp only
    omega
theorem fold_high (xs : List Int) : ∀ p : Int × Int, 0 ≤ p.2 → p.2 < 65521 → (xs.foldl stepS p).2 = (p.2 + xs.length * p.1 + wsum xs) % 65521 := by
  induction xs with
  | nil => intro p h0 h1; simp only [List.foldl_nil, List.length_nil, wsum]; omega
  | cons x xs ih =>
    intro p h0 h1
    rw [List.foldl_cons, ih _ (by unfold stepS; dsimp only; omega) (by unfold stepS; dsimp only; omega)]
    unfold stepS
    dsimp only
    simp only [wsum, List.length_cons]
    have e : ((xs.length : Int) * ((p.1 + x) % 65521)) % 65521 = ((xs.length : Int) * (p.1 + x)) % 65521 := by rw [Int.mul_emod, Int.emod_emod_of_dvd _ (Int.dvd_refl _), ← Int.mul_emod]
    have e2 : (((xs.length + 1 : Nat) : Int)) * p.1 = (xs.length : Int) * p.1 + p.1 := by rw [Int.natCast_add, Int.add_mul]; simp
    have e3 : ((xs.length : Int) + 1) * x = (xs.length : Int) * x + x := by rw [Int.add_mul]; simp
    have e4 : (xs.length : Int) * (p.1 + x) = (xs.length : Int) * p.1 + (xs.length : Int) * x := Int.mul_add _ _ _
    rw [e2, e3]
    rw [e4] at e
    generalize (xs.length : Int) * p.1 = u at *
    generalize (xs.length : Int) * x = v at *
    generalize (xs.length : Int) * ((p.1 + x) % 65521) = z at *
    omega
theorem sumP_low (xs : List Int) : (sumP xs).1 = (1 + xs.sum) % 65521 := fold_low xs (1, 0) (by decide) (by decide)
theorem sum_set (xs : List Int) : ∀ (n : Nat) (y : Int), n < xs.length → (xs.set n y).sum = xs.sum - xs.getD n 0 + y := by
  induction xs with
  | nil => intro n y h; simp at h
  | cons x xs ih =>
    intro n y h
    cases n with
    | zero => simp; omega
    | succ n =>
      have := ih n y (by simpa using h)
      simp only [List.set_cons_succ, List.sum_cons, List.getD_cons_succ]
      omega
theorem sumOf_turned {xs : List Int} (hx : Bytes xs) {n : Nat} (h : n < xs.length) {y : Int} (hy : Byte y) (hne : xs.getD n 0 ≠ y) : sumOf xs ≠ sumOf (xs.set n y) := by
  intro he
  have h1 := sumP_low xs
  have h2 := sumP_low (xs.set n y)
  rw [sum_set xs n y h] at h2
  have r1 := sumP_range xs
  have r2 := sumP_range (xs.set n y)
  have hb := hx.getD n
  unfold sumOf at he
  unfold Byte at hb hy
  omega
theorem xor_ne {a b : Nat} (h : b ≠ 0) : a ^^^ b ≠ a := by
  intro he
  have : a ^^^ (a ^^^ b) = b := by rw [← Nat.xor_assoc, Nat.xor_self, Nat.zero_xor]
  rw [he, Nat.xor_self] at this
  exact h this.symm
theorem xor_byte {a b : Nat} (ha : a < 256) (hb : b < 256) : a ^^^ b < 256 := Nat.xor_lt_two_pow (n := 8) ha hb
theorem Bytes.set {xs : List Int} (h : Bytes xs) {y : Int} (hy : Byte y) (n : Nat) : Bytes (xs.set n y) := fun x hx => by
  rcases List.mem_or_eq_of_mem_set hx with hx | rfl
  · exact h x hx
  · exact hy
end Go.Proofs.Ytdagpeencafheaa.M
