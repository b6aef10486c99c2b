

/- Plain arithmetic of the sums, numbers and lists of chapter 1: no program in sight. -/
namespace Go.Proofs.Ytobljkhidgbeoaa.M

/-- one byte taken into the two running sums -/
def stepS (p : Int × Int) (x : Int) : Int × Int := ((p.1 + x) % 65521, (p.2 + (p.1 + x) % 65521) % 65521)
def sumP (xs : List Int) : Int × Int := xs.foldl stepS (1, 0)
def sumOf (xs : List Int) : Int := (sumP xs).2 * 65536 + (sumP xs).1

def Byte (x : Int) : Prop := 0 ≤ x ∧ x < 256
def Bytes (xs : List Int) : Prop := ∀ x ∈ xs, Byte x

theorem fold_range (xs : List Int) : ∀ p : Int × Int, (0 ≤ p.1 ∧ p.1 < 65521) → (0 ≤ p.2 ∧ p.2 < 65521) →
    (0 ≤ (xs.foldl stepS p).1 ∧ (xs.foldl stepS p).1 < 65521) ∧ (0 ≤ (xs.foldl stepS p).2 ∧ (xs.foldl stepS p).2 < 65521) := by
  induction xs with
  | nil => intro p h1 h2; exact ⟨h1, h2⟩
  | cons x xs ih =>
    intro p _ _
    exact ih (stepS p x) (by unfold stepS; dsimp only; omega) (by unfold stepS; dsimp only; omega)
theorem sumP_range (xs : List Int) : (0 ≤ (sumP xs).1 ∧ (sumP xs).1 < 65521) ∧ (0 ≤ (sumP xs).2 ∧ (sumP xs).2 < 65521) := fold_range xs (1, 0) (by decide) (by decide)
theorem sumP_take (xs : List Int) (k : Nat) (h : k < xs.length) : sumP (xs.take (k + 1)) = stepS (sumP (xs.take k)) (xs.getD k 0) := by
  unfold sumP
  rw [List.take_succ_eq_append_getElem h, List.foldl_append, List.getD_eq_getElem?_getD, List.getElem?_eq_getElem h]
  rfl
theorem sumOf_range (xs : List Int) : 0 ≤ sumOf xs ∧ sumOf xs < 4294967296 := by
  have := sumP_range xs
  unfold sumOf
  omega
theorem Bytes.getD {xs : List Int} (h : Bytes xs) (k : Nat) : Byte (xs.getD k 0) := by
  rw [List.getD_eq_getElem?_getD]
  by_cases hk : k < xs.length
  · rw [List.getElem?_eq_getElem hk]; exact h _ (List.getElem_mem hk)
  · rw [List.getElem?_eq_none (by omega)]; exact ⟨by decide, by decide⟩
theorem Bytes.append {xs ys : List Int} (h : Bytes xs) (k : Bytes ys) : Bytes (xs ++ ys) := fun x hx => (List.mem_append.1 hx).elim (h x) (k x)
theorem Bytes.nil : Bytes [] := fun x hx => by cases hx
theorem Bytes.cons {x : Int} {xs : List Int} (h : Byte x) (k : Bytes xs) : Bytes (x :: xs) := fun y hy => by
  rcases List.mem_cons.1 hy with rfl | hy
  · exact h
  · exact k _ hy
theorem Bytes.take {xs : List Int} (h : Bytes xs) (k : Nat) : Bytes (xs.take k) := fun x hx => h x (List.mem_of_mem_take hx)
theorem Bytes.drop {xs : List Int} (h : Bytes xs) (k : Nat) : Bytes (xs.drop k) := fun x hx => h x (List.mem_of_mem_drop hx)

/-! numbers as bytes, the greatest first -/
def beAt (v : Int) (n i : Nat) : Int := v / 2 ^ (8 * (n - 1 - i)) % 256
def beB (v : Int) (n : Nat) : List Int := (List.range n).map (beAt v n)
def bePart (v : Int) (n i : Nat) : List Int := (List.range n).map fun j => if n ≤ i + j then beAt v n j else 0
/-- what Put tells: the bytes, the error -/
def putM (v n : Int) : List Int × Int := if n < 1 ∨ 8 < n then ([], 1) else if n < 8 ∧ 0 < v / 2 ^ (8 * n.toNat) then ([], 10) else (beB v n.toNat, 0)
theorem beB_length (v : Int) (n : Nat) : (beB v n).length = n := by simp [beB]
theorem bePart_length (v : Int) (n i : Nat) : (bePart v n i).length = n := by simp [bePart]
theorem bePart_zero (v : Int) (n : Nat) : bePart v n 0 = List.replicate n 0 := by
  apply List.ext_getElem
  · simp [bePart]
  · intro j h1 h2
    have : j < n := by simpa [bePart] using h1
    simp [bePart, show ¬ n ≤ j by omega]
theorem bePart_full (v : Int) (n : Nat) : bePart v n n = beB v n := by
  apply List.ext_getElem
  · simp [bePart, beB]
  · intro j h1 h2
    simp [bePart, beB]
theorem bePart_step (v : Int) (n i : Nat) (h : i < n) : (bePart v n i).set (n - 1 - i) (v / 2 ^ (8 * i) % 256) = bePart v n (i + 1) := by
  apply List.ext_getElem
  · simp [bePart]
  · intro j h1 h2
    have hj : j < n := by simpa [bePart] using h2
    rw [List.getElem_set]
    by_cases e : n - 1 - i = j
    · rw [if_pos e]
      simp only [bePart, List.getElem_map, List.getElem_range]
      rw [if_pos (by omega)]
      unfold beAt
      rw [show n - 1 - j = i by omega]
    · rw [if_neg e]
      simp only [bePart, List.getElem_map, List.getElem_range]
      by_cases e2 : n ≤ i + j
      · rw [if_pos e2, if_pos (by omega)]
      · rw [if_neg e2, if_neg (by omega)]
theorem beAt_byte (v : Int) (n i : Nat) : Byte (beAt v n i) := by unfold beAt Byte; omega
theorem beB_bytes (v : Int) (n : Nat) : Bytes (beB v n) := fun x hx => by
  obtain ⟨i, _, rfl⟩ := List.mem_map.1 hx
  exact beAt_byte v n i
theorem putM_bytes (v n : Int) : Bytes (putM v n).1 := by
  unfold putM
  split
  · exact Bytes.nil
  · split
    · exact Bytes.nil
    · exact beB_bytes _ _
theorem putM_len (v n : Int) : (putM v n).1.length ≤ 8 := by
  unfold putM
  split
  · simp
  · split
    · simp
    · rw [beB_length]; omega

/-! digits -/
def hexD (d : Int) : Int := if d < 10 then 48 + d else 87 + d
def hexB (xs : List Int) : List Int := xs.flatMap fun x => [hexD (x / 16), hexD (x % 16)]
theorem hexB_length (xs : List Int) : (hexB xs).length = 2 * xs.length := by
  induction xs with
  | nil => rfl
  | cons x xs ih =>
    have : hexB (x :: xs) = [hexD (x / 16), hexD (x % 16)] ++ hexB xs := rfl
    rw [this, List.length_append, ih]
    simp; omega
theorem hexB_take (xs : List Int) (k : Nat) (h : k < xs.length) : hexB (xs.take (k + 1)) = hexB (xs.take k) ++ [hexD (xs.getD k 0 / 16), hexD (xs.getD k 0 % 16)] := by
  rw [List.take_succ_eq_append_getElem h, List.getD_eq_getElem?_getD, List.getElem?_eq_getElem h]
  unfold hexB
  rw [List.flatMap_append]
  rfl

/-! the sums in closed form -/
def wsum : List Int → Int
  | [] => 0
  | x :: xs => ((xs.length : Int) + 1) * x + wsum xs
theorem fold_low (xs : List Int) : ∀ p : Int × Int, 0 ≤ p.1 → p.1 < 65521 → (xs.foldl stepS p).1 = (p.1 + xs.sum) % 65521 := by
  induction xs with
  | nil => intro p h0 h1; simp only [List.foldl_nil, List.sum_nil]; omega
  | cons x xs ih =>
    intro p h0 h1
    rw [List.foldl_cons, ih _ (by unfold stepS; dsimp only; omega) (by unfold stepS; dsimp only; omega), List.sum_cons]
    unfold stepS
    dsimp only
    omega
theorem fold_high (xs : List Int) : ∀ p : Int × Int, 0 ≤ p.2 → p.2 < 65521 → (xs.foldl stepS p).2 = (p.2 + xs.length * p.1 + wsum xs) % 65521 := by
  induction xs with
  | nil => intro p h0 h1; simp only [List.foldl_nil, List.length_nil, wsum]; omega
  | cons x xs ih =>
    intro p h0 h1
    rw [List.foldl_cons, ih _ (by unfold stepS; dsimp only; omega) (by unfold stepS; dsimp only; omega)]
    unfold stepS
    dsimp only
    simp only [wsum, List.length_cons]
    have e : ((xs.length : Int) * ((p.1 + x) % 65521)) % 65521 = ((xs.length : Int) * (p.1 + x)) % 65521 := by rw [Int.mul_emod, Int.emod_emod_of_dvd _ (Int.dvd_refl _), ← Int.mul_emod]
    have e2 : (((xs.length + 1 : Nat) : Int)) * p.1 = (xs.length : Int) * p.1 + p.1 := by rw [Int.natCast_add, Int.add_mul]; simp
    have e3 : ((xs.length : Int) + 1) * x = (xs.length : Int) * x + x := by rw [Int.add_mul]; simp
    have e4 : (xs.length : Int) * (p.1 + x) = (xs.length : Int) * p.1 + (xs.length : Int) * x := Int.mul_add _ _ _
    rw [e2, e3]
    rw [e4] at e
    generalize (xs.length : Int) * p.1 = u at *
    generalize (xs.length : Int) * x = v at *
    generalize (xs.length : Int) * ((p.1 + x) % 65521) = z at *
    omega
theorem sumP_low (xs : List Int) : (sumP xs).1 = (1 + xs.sum) % 65521 := fold_low xs (1, 0) (by decide) (by decide)
theorem sum_set (xs : List Int) : ∀ (n : Nat) (y : Int), n < xs.length → (xs.set n y).sum = xs.sum - xs.getD n 0 + y := by
  induction xs with
  | nil => intro n y h; simp at h
  | cons x xs ih =>
    intro n y h
    cases n with
    | zero => simp; omega
    | succ n =>
      have := ih n y (by simpa using h)
      simp only [List.set_cons_succ, List.sum_cons, List.getD_cons_succ]
      omega
theorem sumOf_turned {xs : List Int} (hx : Bytes xs) {n : Nat} (h : n < xs.length) {y : Int} (hy : Byte y) (hne : xs.getD n 0 ≠ y) : sumOf xs ≠ sumOf (xs.set n y) := by
  intro he
  have h1 := sumP_low xs
  have h2 := sumP_low (xs.set n y)
  rw [sum_set xs n y h] at h2
  have r1 := sumP_range xs
  have r2 := sumP_range (xs.set n y)
  have hb := hx.getD n
  unfold sumOf at he
  unfold Byte at hb hy
  omega
theorem xor_ne {a b : Nat} (h : b ≠ 0) : a ^^^ b ≠ a := by
  intro he
  have : a ^^^ (a ^^^ b) = b := by rw [← Nat.xor_assoc, Nat.xor_self, Nat.zero_xor]
  rw [he, Nat.xor_self] at this
  exact h this.symm
theorem xor_byte {a b : Nat} (ha : a < 256) (hb : b < 256) : a ^^^ b < 256 := Nat.xor_lt_two_pow (n := 8) ha hb
theorem Bytes.set {xs : List Int} (h : Bytes xs) {y : Int} (hy : Byte y) (n : Nat) : Bytes (xs.set n y) := fun x hx => by
  rcases List.mem_or_eq_of_mem_set hx with hx | rfl
  · exact h x hx
  · exact hy

/-- the sum of two texts one behind the other, out of their sums and the second one's length -/
def bothM (x y n : Int) : Int :=
  (x / 65536 + y / 65536 + (if n < 0 then 0 else n) % 65521 * ((x % 65536 + 65520) % 65521)) % 65521 * 65536 + (x % 65536 + y % 65536 + 65520) % 65521
theorem wsum_append (xs ys : List Int) : wsum (xs ++ ys) = wsum xs + ys.length * xs.sum + wsum ys := by
  induction xs with
  | nil => simp [wsum]
  | cons x xs ih =>
    simp only [List.cons_append, wsum, List.sum_cons, List.length_append, ih]
    have e1 : (((xs.length + ys.length : Nat) : Int) + 1) * x = ((xs.length : Int) + 1) * x + (ys.length : Int) * x := by
      rw [← Int.add_mul]; congr 1; omega
    have e2 : (ys.length : Int) * (x + xs.sum) = (ys.length : Int) * x + (ys.length : Int) * xs.sum := Int.mul_add _ _ _
    rw [e1, e2]
    omega
theorem sumP_high (xs : List Int) : (sumP xs).2 = (xs.length + wsum xs) % 65521 := by
  have := fold_high xs (1, 0) (by decide) (by decide)
  dsimp only at this
  rw [Int.zero_add, Int.mul_one] at this
  exact this
theorem sumOf_append (xs ys : List Int) : sumOf (xs ++ ys) = bothM (sumOf xs) (sumOf ys) ys.length := by
  have l1 := sumP_low xs
  have l2 := sumP_low ys
  have l3 := sumP_low (xs ++ ys)
  have h1 := sumP_high xs
  have h2 := sumP_high ys
  have h3 := sumP_high (xs ++ ys)
  have r1 := sumP_range xs
  have r2 := sumP_range ys
  rw [List.sum_append] at l3
  rw [List.length_append, wsum_append] at h3
  unfold bothM
  have q1 : sumOf xs / 65536 = (sumP xs).2 := by unfold sumOf; omega
  have q2 : sumOf ys / 65536 = (sumP ys).2 := by unfold sumOf; omega
  have m1 : sumOf xs % 65536 = (sumP xs).1 := by unfold sumOf; omega
  have m2 : sumOf ys % 65536 = (sumP ys).1 := by unfold sumOf; omega
  rw [q1, q2, m1, m2, if_neg (by omega)]
  have e0 : ((sumP xs).1 + 65520) % 65521 = xs.sum % 65521 := by omega
  rw [e0]
  have e1 : ((ys.length : Int) % 65521 * (xs.sum % 65521)) % 65521 = ((ys.length : Int) * xs.sum) % 65521 := (Int.mul_emod _ _ _).symm
  unfold sumOf
  rw [l3, h3, l1, l2, h1, h2]
  generalize (ys.length : Int) % 65521 * (xs.sum % 65521) = P at *
  generalize (ys.length : Int) * xs.sum = Q at *
  have a1 : ((xs.length + ys.length : Nat) : Int) = xs.length + ys.length := by omega
  rw [a1]
  omega

/-! numbers taken apart from the small end, and put together -/
def sh (v : Int) (i : Nat) : Int := v / 2 ^ (8 * i)
def leB (v : Int) (n : Nat) : List Int := (List.range n).map fun i => sh v i % 256
theorem sh_zero (v : Int) : sh v 0 = v := by simp [sh]
theorem sh_succ (v : Int) (i : Nat) : sh v (i + 1) = sh v i / 256 := by
  unfold sh
  rw [show 8 * (i + 1) = 8 * i + 8 by omega, Int.pow_add, ← Int.ediv_ediv_of_nonneg (by exact Int.le_of_lt (Int.pow_pos (by decide)))]
  rfl
theorem sh_range {v : Int} (h0 : 0 ≤ v) (h : v < 18446744073709551616) (i : Nat) : 0 ≤ sh v i ∧ sh v i < 18446744073709551616 := by
  induction i with
  | zero => rw [sh_zero]; exact ⟨h0, h⟩
  | succ i ih => rw [sh_succ]; omega
theorem leB_length (v : Int) (n : Nat) : (leB v n).length = n := by simp [leB]
theorem leB_succ (v : Int) (n : Nat) : leB v (n + 1) = leB v n ++ [sh v n % 256] := by simp [leB, List.range_succ]
theorem beB_take (v : Int) (n k : Nat) (h : k < n) : (beB v n).take (k + 1) = (beB v n).take k ++ [(leB v n).getD (n - 1 - k) 0] := by
  rw [List.take_succ_eq_append_getElem (by simpa [beB] using h)]
  congr 2
  rw [List.getD_eq_getElem?_getD, List.getElem?_eq_getElem (by simp [leB]; omega)]
  simp [beB, leB, beAt, sh]
theorem leB_bytes (v : Int) (n : Nat) : Bytes (leB v n) := fun x hx => by
  obtain ⟨i, _, rfl⟩ := List.mem_map.1 hx
  unfold Byte
  omega
def getF (xs : List Int) : Int := xs.foldl (fun v x => 256 * v + x) 0
def getM (xs : List Int) : Int × Int := if xs.length < 1 ∨ 8 < xs.length then (0, 1) else (getF xs, 0)
theorem getF_take (xs : List Int) (k : Nat) (h : k < xs.length) : getF (xs.take (k + 1)) = 256 * getF (xs.take k) + xs.getD k 0 := by
  unfold getF
  rw [List.take_succ_eq_append_getElem h, List.foldl_append, List.getD_eq_getElem?_getD, List.getElem?_eq_getElem h]
  rfl
theorem getF_range {xs : List Int} (hx : Bytes xs) : ∀ k, k ≤ xs.length → 0 ≤ getF (xs.take k) ∧ getF (xs.take k) < 2 ^ (8 * k) := by
  intro k
  induction k with
  | zero => intro _; simp [getF]
  | succ k ih =>
    intro h
    obtain ⟨h0, h1⟩ := ih (by omega)
    rw [getF_take xs k (by omega)]
    have hb := hx.getD k
    unfold Byte at hb
    have e : (2 : Int) ^ (8 * (k + 1)) = 2 ^ (8 * k) * 256 := by rw [show 8 * (k + 1) = 8 * k + 8 by omega, Int.pow_add]; rfl
    rw [e]
    omega
theorem pow_le8 {k : Nat} (h : k ≤ 7) : (2 : Int) ^ (8 * k) ≤ 72057594037927936 := by
  match k, h with
  | 0, _ | 1, _ | 2, _ | 3, _ | 4, _ | 5, _ | 6, _ | 7, _ => decide
theorem getF_small {xs : List Int} (hx : Bytes xs) {k : Nat} (h : k ≤ xs.length) (h7 : k ≤ 7) : 0 ≤ getF (xs.take k) ∧ getF (xs.take k) < 72057594037927936 := by
  have h1 := getF_range hx k h
  have h2 := pow_le8 h7
  exact ⟨h1.1, Int.lt_of_lt_of_le h1.2 h2⟩

/-! digits read -/
def dig (c : Int) : Int := if 48 ≤ c ∧ c ≤ 57 then c - 48 else if 97 ≤ c ∧ c ≤ 102 then c - 97 + 10 else 16
theorem dig_range (c : Int) : 0 ≤ dig c ∧ dig c ≤ 16 := by
  unfold dig
  split
  · omega
  · split <;> omega
def bad? (l : List Int) : Option Nat := (List.range l.length).find? fun i => dig (l.getD i 0) == 16
def unB (l : List Int) (i : Nat) : List Int := (List.range ((i + 1) / 2)).map fun j => 16 * dig (l.getD (2 * j) 0) + (if 2 * j + 1 < i then dig (l.getD (2 * j + 1) 0) else 0)
def unhexM (l : List Int) : List Int × Int × Int :=
  match bad? l with
  | some i => ([], i, 3)
  | none => if l.length % 2 = 1 then ([], l.length, 3) else (unB l l.length, 0, 0)
theorem bad_at {l : List Int} {i : Nat} (hi : i < l.length) (hg : ∀ j, j < i → dig (l.getD j 0) ≠ 16) (hb : dig (l.getD i 0) = 16) : bad? l = some i := by
  unfold bad?
  rw [List.find?_range_eq_some]
  refine ⟨by simp only [beq_iff_eq]; exact hb, by simpa using hi, fun j hj => ?_⟩
  simp only [Bool.not_eq_true', beq_eq_false_iff_ne]
  exact hg j hj
theorem bad_none {l : List Int} (hg : ∀ j, j < l.length → dig (l.getD j 0) ≠ 16) : bad? l = none := by
  unfold bad?
  rw [List.find?_range_eq_none]
  intro i hi
  simp only [Bool.not_eq_true', beq_eq_false_iff_ne]
  exact hg i hi
theorem unhexM_bad {l : List Int} {i : Nat} (hi : i < l.length) (hg : ∀ j, j < i → dig (l.getD j 0) ≠ 16) (hb : dig (l.getD i 0) = 16) : unhexM l = ([], (i : Int), 3) := by
  unfold unhexM; rw [bad_at hi hg hb]
theorem unhexM_odd {l : List Int} (hg : ∀ j, j < l.length → dig (l.getD j 0) ≠ 16) (h : l.length % 2 = 1) : unhexM l = ([], (l.length : Int), 3) := by
  unfold unhexM; rw [bad_none hg]; dsimp only; rw [if_pos h]
theorem unhexM_good {l : List Int} (hg : ∀ j, j < l.length → dig (l.getD j 0) ≠ 16) (h : ¬ l.length % 2 = 1) : unhexM l = (unB l l.length, 0, 0) := by
  unfold unhexM; rw [bad_none hg]; dsimp only; rw [if_neg h]
theorem unB_length (l : List Int) (i : Nat) : (unB l i).length = (i + 1) / 2 := by simp [unB]
theorem unB_even (l : List Int) (i : Nat) (h : i % 2 = 0) : unB l (i + 1) = unB l i ++ [16 * dig (l.getD i 0)] := by
  unfold unB
  have e : (i + 1 + 1) / 2 = (i + 1) / 2 + 1 := by omega
  rw [e, List.range_succ, List.map_append]
  congr 1
  · apply List.map_congr_left
    intro j hj
    have := List.mem_range.1 hj
    rw [if_pos (by omega), if_pos (by omega)]
  · have e2 : 2 * ((i + 1) / 2) = i := by omega
    simp only [List.map_cons, List.map_nil]
    rw [e2, if_neg (by omega), Int.add_zero]
theorem unB_odd (l : List Int) (i : Nat) (h : i % 2 = 1) : unB l (i + 1) = (unB l i).set (i / 2) (16 * dig (l.getD (i - 1) 0) + dig (l.getD i 0)) := by
  apply List.ext_getElem
  · simp [unB]; omega
  · intro j h1 h2
    have hj : j < (i + 1) / 2 := by simpa [unB] using h2
    rw [List.getElem_set]
    simp only [unB, List.getElem_map, List.getElem_range]
    by_cases e : i / 2 = j
    · rw [if_pos e, if_pos (by omega)]
      have e1 : 2 * j = i - 1 := by omega
      have e2 : 2 * j + 1 = i := by omega
      rw [e2, e1]
    · rw [if_neg e, if_pos (by omega), if_pos (by omega)]
theorem unB_last (l : List Int) (i : Nat) (h : i % 2 = 1) : (unB l i).getD (i / 2) 0 = 16 * dig (l.getD (i - 1) 0) := by
  rw [List.getD_eq_getElem?_getD, List.getElem?_eq_getElem (by simp [unB]; omega)]
  simp only [unB, List.getElem_map, List.getElem_range, Option.getD_some]
  have e1 : 2 * (i / 2) = i - 1 := by omega
  rw [e1, if_neg (by omega), Int.add_zero]
theorem unB_pair (l : List Int) (i : Nat) (h : i % 2 = 0) : unB l (i + 2) = unB l i ++ [16 * dig (l.getD i 0) + dig (l.getD (i + 1) 0)] := by
  have h1 := unB_even l i h
  have h2 := unB_odd l (i + 1) (by omega)
  rw [h1] at h2
  rw [h2]
  have e1 : (i + 1) / 2 = (unB l i).length := by rw [unB_length]
  rw [e1, List.set_append_right _ _ (Nat.le_refl _), Nat.sub_self]
  simp
theorem unB_bytes (l : List Int) (i : Nat) (hg : ∀ j, j < i → dig (l.getD j 0) ≠ 16) : Bytes (unB l i) := fun x hx => by
  obtain ⟨j, hj, rfl⟩ := List.mem_map.1 hx
  have hj' := List.mem_range.1 hj
  have h1 := dig_range (l.getD (2 * j) 0)
  have h2 := dig_range (l.getD (2 * j + 1) 0)
  have h3 := hg (2 * j) (by omega)
  unfold Byte
  split
  · rename_i h
    have h4 := hg (2 * j + 1) h
    omega
  · omega
def worthM (c : Int) : Int := if dig c = 16 then -1 else dig c
end Go.Proofs.Ytobljkhidgbeoaa.M
