import Derived.Test.YtdagpeencafheaaOctW
/- Plain laws: what is split is joined again; numbers, parts and digits go there and back. -/
namespace Go.Proofs.Ytdagpeencafheaa.Oct
open Go.RowKit Go.Proofs.YtdagpeencafheaaW.PrintWords Go.Proofs.Ytdagpeencafheaa.M
set_option linter.unusedVariables false
set_option linter.unusedSimpArgs false
theorem withOut_ok {p : List Int} {e : Except (Int × Int) (List (List Int))} {l : List (List Int)} (h : withOut [p] e = .ok l) : ∃ l', e = .ok l' ∧ l = p :: l' := by
  cases e with
  | ok l' => injection h with h; exact ⟨l', rfl, h.symm⟩
  | error x => cases h
theorem withOut_err {p : List Int} {e : Except (Int × Int) (List (List Int))} {x : Int × Int} (h : withOut [p] e = .error x) : e = .error x := by
  cases e with
  | ok l' => cases h
  | error y => exact h
theorem joinB_cons (p : List Int) (l : List (List Int)) : joinB (p :: l) = (p.length : Int) / 256 :: (p.length : Int) % 256 :: (p ++ joinB l) := by
  simp [joinB, partH]
theorem split_join : ∀ (m : Nat) (rest : List Int) (at_ k : Nat) (l : List (List Int)), rest.length ≤ m → Bytes rest → k ≤ 1000 → splitR at_ rest k = .ok l → joinB l = rest ∧ k + l.length ≤ 1000 ∧ ∀ p ∈ l, p.length ≤ 65535 := by
  intro m
  induction m with
  | zero =>
    intro rest at_ k l h _ hk hs
    have : rest = [] := List.eq_nil_of_length_eq_zero (by omega)
    subst this
    rw [splitR_nil] at hs
    injection hs with hs
    subst hs
    exact ⟨rfl, hk, fun p hp => by cases hp⟩
  | succ m ih =>
    intro rest at_ k l h hb hk hs
    match rest, h, hb, hs with
    | [], _, _, hs =>
      rw [splitR_nil] at hs
      injection hs with hs
      subst hs
      exact ⟨rfl, hk, fun p hp => by cases hp⟩
    | [x], _, _, hs => rw [splitR_one] at hs; cases hs
    | x :: y :: r, h, hb, hs =>
      have hx := hb x (by simp)
      have hy := hb y (by simp)
      unfold Byte at hx hy
      by_cases h1 : r.length < (256 * x + y).toNat
      · rw [splitR_short _ _ _ _ _ h1] at hs; cases hs
      by_cases h2 : 1000 ≤ k
      · rw [splitR_long _ _ _ _ _ h1 h2] at hs; cases hs
      rw [splitR_step _ _ _ _ _ h1 h2] at hs
      obtain ⟨l', h3, rfl⟩ := withOut_ok hs
      have hbr : Bytes r := fun z hz => hb z (by simp [hz])
      obtain ⟨j1, j2, j3⟩ := ih _ _ _ _ (by simp at h ⊢; omega) (hbr.drop _) (by omega) h3
      have hlen : (r.take (256 * x + y).toNat).length = (256 * x + y).toNat := by rw [List.length_take]; omega
      refine ⟨?_, by simp; omega, fun p hp => ?_⟩
      · rw [joinB_cons, hlen, j1, List.take_append_drop]
        congr 1
        · omega
        congr 1
        omega
      · rcases List.mem_cons.1 hp with e | e
        · rw [e, hlen]; omega
        · exact j3 p e
theorem split_fault : ∀ (m : Nat) (rest : List Int) (at_ k : Nat) (x y : Int), rest.length ≤ m → splitR at_ rest k = .error (x, y) → 0 ≤ x ∧ x < (at_ : Int) + rest.length ∧ y ≠ 0 := by
  intro m
  induction m with
  | zero =>
    intro rest at_ k x y h hs
    have : rest = [] := List.eq_nil_of_length_eq_zero (by omega)
    subst this
    rw [splitR_nil] at hs
    cases hs
  | succ m ih =>
    intro rest at_ k x' y' h hs
    match rest, h, hs with
    | [], _, hs => rw [splitR_nil] at hs; cases hs
    | [x], _, hs =>
      rw [splitR_one] at hs
      injection hs with hs
      injection hs with e1 e2
      rw [← e1, ← e2]
      exact ⟨by omega, by simp; omega, by decide⟩
    | x :: y :: r, h, hs =>
      by_cases h1 : r.length < (256 * x + y).toNat
      · rw [splitR_short _ _ _ _ _ h1] at hs
        injection hs with hs
        injection hs with e1 e2
        rw [← e1, ← e2]
        exact ⟨by omega, by simp; omega, by decide⟩
      by_cases h2 : 1000 ≤ k
      · rw [splitR_long _ _ _ _ _ h1 h2] at hs
        injection hs with hs
        injection hs with e1 e2
        rw [← e1, ← e2]
        exact ⟨by omega, by simp; omega, by decide⟩
      rw [splitR_step _ _ _ _ _ h1 h2] at hs
      have h3 := withOut_err hs
      obtain ⟨j1, j2, j3⟩ := ih _ _ _ _ _ (by simp at h ⊢; omega) h3
      exact ⟨j1, by rw [List.length_drop] at j2; simp only [List.length_cons]; omega, j3⟩
theorem split_cut : ∀ (m : Nat) (rest : List Int) (at_ k n : Nat) (l l2 : List (List Int)), rest.length ≤ m → n < rest.length → splitR at_ rest k = .ok l → splitR at_ (rest.take n) k = .ok l2 → l2.length < l.length := by
  intro m
  induction m with
  | zero => intro rest at_ k n l l2 h hn; omega
  | succ m ih =>
    intro rest at_ k n l l2 h hn hs hs2
    match rest, h, hn, hs, hs2 with
    | [x], _, _, hs, _ => rw [splitR_one] at hs; cases hs
    | x :: y :: r, h, hn, hs, hs2 =>
      by_cases h1 : r.length < (256 * x + y).toNat
      · rw [splitR_short _ _ _ _ _ h1] at hs; cases hs
      by_cases h2 : 1000 ≤ k
      · rw [splitR_long _ _ _ _ _ h1 h2] at hs; cases hs
      rw [splitR_step _ _ _ _ _ h1 h2] at hs
      obtain ⟨l', h3, rfl⟩ := withOut_ok hs
      match n, hn, hs2 with
      | 0, _, hs2 =>
        rw [List.take_zero, splitR_nil] at hs2
        injection hs2 with hs2
        subst hs2
        simp
      | 1, _, hs2 => rw [show (x :: y :: r).take 1 = [x] from rfl, splitR_one] at hs2; cases hs2
      | n + 2, hn, hs2 =>
        rw [show (x :: y :: r).take (n + 2) = x :: y :: r.take n from rfl] at hs2
        by_cases h4 : (r.take n).length < (256 * x + y).toNat
        · rw [splitR_short _ _ _ _ _ h4] at hs2; cases hs2
        rw [splitR_step _ _ _ _ _ h4 h2] at hs2
        obtain ⟨l2', h5, rfl⟩ := withOut_ok hs2
        rw [List.drop_take] at h5
        rw [List.length_take] at h4
        simp only [List.length_cons] at hn h
        have := ih (r.drop (256 * x + y).toNat) _ _ (n - (256 * x + y).toNat) l' l2' (by rw [List.length_drop]; omega) (by rw [List.length_drop]; omega) h3 h5
        simp only [List.length_cons]
        omega
theorem split_form (b : List Int) : (splitM b = .ok (splitP b) ∧ splitE b = (0, 0)) ∨ (splitM b = .error (splitE b) ∧ splitP b = [] ∧ (splitE b).2 ≠ 0 ∧ 0 ≤ (splitE b).1 ∧ (splitE b).1 < b.length) := by
  unfold splitP splitE
  cases hs : splitM b with
  | ok l => exact .inl ⟨rfl, rfl⟩
  | error e =>
    obtain ⟨x, y⟩ := e
    have := split_fault b.length b 0 0 x y (Nat.le_refl _) hs
    exact .inr ⟨rfl, rfl, this.2.2, this.1, by have := this.2.1; simp at this; exact this⟩
theorem split_again {b : List Int} (hb : Bytes b) (h : (splitE b).2 = 0) : joinM (splitP b) = (b, 0) := by
  rcases split_form b with ⟨h1, _⟩ | ⟨_, _, h2, _⟩
  · obtain ⟨j1, j2, j3⟩ := split_join b.length b 0 0 _ (Nat.le_refl _) hb (by omega) h1
    unfold joinM
    rw [if_neg (fun h => h.elim (fun h => by omega) (fun ⟨p, hp, h⟩ => by have := j3 p hp; omega)), j1]
  · exact absurd h h2
theorem split_fewer {b : List Int} {n : Nat} (hn : n < b.length) (h : (splitE b).2 = 0) : (splitE (b.take n)).2 ≠ 0 ∨ (splitP (b.take n)).length < (splitP b).length := by
  rcases split_form b with ⟨h1, _⟩ | ⟨_, _, h2, _⟩
  · rcases split_form (b.take n) with ⟨h3, _⟩ | ⟨_, _, h4, _⟩
    · exact .inr (split_cut b.length b 0 0 n _ _ (Nat.le_refl _) hn h1 h3)
    · exact .inl h4
  · exact absurd h h2
theorem split_of_join : ∀ (l : List (List Int)) (at_ k : Nat), k + l.length ≤ 1000 → (∀ p ∈ l, p.length ≤ 65535) → splitR at_ (joinB l) k = .ok l := by
  intro l
  induction l with
  | nil => intro at_ k _ _; exact splitR_nil _ _
  | cons p l ih =>
    intro at_ k hk hp
    simp only [List.length_cons] at hk
    have h1 := hp p (by simp)
    have hN : (256 * ((p.length : Int) / 256) + (p.length : Int) % 256).toNat = p.length := by omega
    rw [joinB_cons, splitR_step _ _ _ _ _ (by rw [hN, List.length_append]; omega) (by omega), hN, List.take_left' rfl, List.drop_left' rfl, ih _ _ (by omega) (fun q hq => hp q (by simp [hq]))]
    rfl
theorem join_back {l : List (List Int)} (h : l.length ≤ 40) (hp : ∀ p ∈ l, p.length ≤ 300) : joinM l = (joinB l, 0) ∧ splitP (joinB l) = l ∧ splitE (joinB l) = (0, 0) := by
  refine ⟨?_, split_ok (split_of_join l 0 0 (by omega) (fun p hq => by have := hp p hq; omega))⟩
  unfold joinM
  rw [if_neg (fun h => h.elim (fun h => by omega) (fun ⟨p, hq, h⟩ => by have := hp p hq; omega))]
theorem joinB_bytes {l : List (List Int)} (h : ∀ p ∈ l, Bytes p ∧ p.length ≤ 65535) : Bytes (joinB l) := by
  induction l with
  | nil => exact Bytes.nil
  | cons p l ih =>
    rw [joinB_cons]
    have := h p (by simp)
    exact Bytes.cons ⟨by omega, by have := this.2; omega⟩ (Bytes.cons ⟨by omega, by omega⟩ (this.1.append (ih (fun q hq => h q (by simp [hq])))))
theorem put_back {v : Int} (h0 : 0 ≤ v) (h : v < 18446744073709551616) : putM v 8 = (beB v 8, 0) ∧ getM (beB v 8) = (v, 0) := by
  refine ⟨by unfold putM; rw [if_neg (by omega), if_neg (by simp)]; rfl, ?_⟩
  unfold getM
  rw [if_neg (by rw [beB_length]; omega)]
  have e : beB v 8 = [v / 72057594037927936 % 256, v / 281474976710656 % 256, v / 1099511627776 % 256, v / 4294967296 % 256, v / 16777216 % 256, v / 65536 % 256, v / 256 % 256, v % 256] := by
    simp [beB, List.range, List.range.loop, beAt]
  rw [e]
  simp only [getF, List.foldl_cons, List.foldl_nil]
  congr 1
  omega
theorem dig_hexD {d : Int} (h0 : 0 ≤ d) (h : d < 16) : dig (hexD d) = d := by
  unfold dig hexD
  by_cases h1 : d < 10
  · rw [if_pos h1, if_pos (by omega)]; omega
  · rw [if_neg h1, if_neg (by omega), if_pos (by omega)]; omega
theorem hexB_get : ∀ (xs : List Int) (k : Nat), k < xs.length → (hexB xs).getD (2 * k) 0 = hexD (xs.getD k 0 / 16) ∧ (hexB xs).getD (2 * k + 1) 0 = hexD (xs.getD k 0 % 16) := by
  intro xs
  induction xs with
  | nil => intro k h; simp at h
  | cons x xs ih =>
    intro k h
    have e : hexB (x :: xs) = hexD (x / 16) :: hexD (x % 16) :: hexB xs := by simp [hexB]
    rw [e]
    cases k with
    | zero => exact ⟨rfl, rfl⟩
    | succ k =>
      have := ih k (by simpa using h)
      rw [show 2 * (k + 1) = 2 * k + 1 + 1 by omega]
      exact this
theorem unB_hexB {xs : List Int} (hb : Bytes xs) : ∀ k, k ≤ xs.length → unB (hexB xs) (2 * k) = xs.take k := by
  intro k
  induction k with
  | zero => intro _; simp [unB]
  | succ k ih =>
    intro h
    obtain ⟨g1, g2⟩ := hexB_get xs k (by omega)
    have hx := hb.getD k
    unfold Byte at hx
    rw [show 2 * (k + 1) = 2 * k + 2 by omega, unB_pair _ _ (by omega), ih (by omega), g1, g2, dig_hexD (by omega) (by omega), dig_hexD (by omega) (by omega), List.take_succ_eq_append_getElem (by omega)]
    congr 2
    rw [List.getD_eq_getElem?_getD, List.getElem?_eq_getElem (show k < xs.length by omega)] at hx ⊢
    simp only [Option.getD_some] at hx ⊢
    omega
theorem unhex_hex {xs : List Int} (hb : Bytes xs) : unhexM (hexB xs) = (xs, 0, 0) := by
  have hl := hexB_length xs
  have hg : ∀ j, j < (hexB xs).length → dig ((hexB xs).getD j 0) ≠ 16 := fun j hj => by
    obtain ⟨k, hk⟩ : ∃ k, k = j / 2 := ⟨_, rfl⟩
    obtain ⟨g1, g2⟩ := hexB_get xs k (by omega)
    have hx := hb.getD k
    unfold Byte at hx
    rcases (show j = 2 * k ∨ j = 2 * k + 1 by omega) with e | e
    · rw [e, g1, dig_hexD (by omega) (by omega)]; omega
    · rw [e, g2, dig_hexD (by omega) (by omega)]; omega
  rw [unhexM_good hg (by omega), hl, unB_hexB hb _ (Nat.le_refl _), List.take_length]
theorem hexB_bytes {xs : List Int} (hb : Bytes xs) : Bytes (hexB xs) := by
  intro y hy
  unfold hexB at hy
  obtain ⟨x, hx, hy⟩ := List.mem_flatMap.1 hy
  have := hb x hx
  unfold Byte at this
  unfold Byte
  have hd : ∀ d : Int, 0 ≤ d → d < 16 → 0 ≤ hexD d ∧ hexD d < 256 := fun d h0 h1 => by unfold hexD; split <;> omega
  simp only [List.mem_cons, List.not_mem_nil, or_false] at hy
  rcases hy with e | e
  · rw [e]; exact hd _ (by omega) (by omega)
  · rw [e]; exact hd _ (by omega) (by omega)
end Go.Proofs.Ytdagpeencafheaa.Oct
