import Derived.Test.YtpkclecgaheplaaRFrameM
/- Plain laws of frames: no program in sight. -/
namespace Go.Proofs.YtpkclecgaheplaaR.M
theorem beB4 (v : Int) : beB v 4 = [v / 16777216 % 256, v / 65536 % 256, v / 256 % 256, v % 256] := by
  simp [beB, List.range, List.range.loop, beAt]
theorem list4 {xs : List Int} (h : xs.length = 4) : ∃ a b c d, xs = [a, b, c, d] := by
  match xs, h with
  | [a, b, c, d], _ => exact ⟨a, b, c, d, rfl⟩
theorem list2 {xs : List Int} (h : xs.length = 2) : ∃ a b, xs = [a, b] := by
  match xs, h with
  | [a, b], _ => exact ⟨a, b, rfl⟩
theorem getF_beB4 {v : Int} (h0 : 0 ≤ v) (h : v < 4294967296) : getF (beB v 4) = v := by
  rw [beB4]; simp [getF]; omega
theorem beB_getF4 {xs : List Int} (hx : Bytes xs) (h : xs.length = 4) : beB (getF xs) 4 = xs := by
  obtain ⟨a, b, c, d, rfl⟩ := list4 h
  have ha := hx a (by simp)
  have hb := hx b (by simp)
  have hc := hx c (by simp)
  have hd := hx d (by simp)
  unfold Byte at ha hb hc hd
  rw [beB4]
  simp only [getF, List.foldl_cons, List.foldl_nil]
  congr 1
  · omega
  congr 1
  · omega
  congr 1
  · omega
  congr 1
  omega
theorem getF_twoB {n : Int} (h0 : 0 ≤ n) (h : n < 65536) : getF (twoB n) = n := by unfold twoB; rw [getF_pair]; omega
theorem twoB_getF {xs : List Int} (hx : Bytes xs) (h : xs.length = 2) : twoB (getF xs) = xs := by
  obtain ⟨a, b, rfl⟩ := list2 h
  have ha := hx a (by simp)
  have hb := hx b (by simp)
  unfold Byte at ha hb
  rw [getF_pair]
  unfold twoB
  congr 1
  · omega
  congr 1
  omega
theorem FR.front_eq (f : FR) (t : List Int) : f.front ++ t = f.s / 16777216 % 256 :: f.s / 65536 % 256 :: f.s / 256 % 256 :: f.s % 256 :: f.q / 256 % 256 :: f.q % 256 :: f.k / 256 % 256 :: f.k % 256 :: (f.d.length : Int) / 256 % 256 :: (f.d.length : Int) % 256 :: (f.d ++ t) := by
  unfold FR.front twoB
  rw [beB4]
  rfl
theorem FR.ext {f g : FR} (h1 : f.s = g.s) (h2 : f.q = g.q) (h3 : f.k = g.k) (h4 : f.d = g.d) : f = g := by
  obtain ⟨a, b, c, d⟩ := f
  obtain ⟨a', b', c', d'⟩ := g
  subst h1 h2 h3 h4
  rfl
theorem FR.lenAt_front {f : FR} (hp : f.mayP) (t : List Int) : lenAt (f.front ++ t) = f.d.length := by
  have hd : f.d.length ≤ 256 := hp.2.2.2
  rw [FR.front_eq]
  show (256 * ((f.d.length : Int) / 256 % 256) + (f.d.length : Int) % 256).toNat = f.d.length
  omega
theorem FR.frameOf_front {f : FR} (hp : f.mayP) (ho : f.ok) (t : List Int) : frameOf (f.front ++ t) = f := by
  unfold frameOf
  rw [FR.lenAt_front hp, FR.front_eq]
  obtain ⟨h1, ⟨h2, h3⟩, ⟨h4, h5⟩, h6⟩ := hp
  obtain ⟨⟨h7, h8⟩, _⟩ := ho
  refine FR.ext ?_ ?_ ?_ ?_
  · have := getF_beB4 h7 h8
    rw [beB4] at this
    exact this
  · exact getF_twoB h2 (by omega)
  · exact getF_twoB h4 (by omega)
  · show (f.d ++ t).take f.d.length = f.d
    exact List.take_left' rfl
theorem FR.take_front (f : FR) (t : List Int) : (f.front ++ t).take (10 + f.d.length) = f.front := List.take_left' (FR.front_len f)
theorem FR.drop_front (f : FR) (t : List Int) : (f.front ++ t).drop (10 + f.d.length) = t := List.drop_left' (FR.front_len f)
def FR.all (f : FR) : List Int := f.front ++ beB (sumOf f.front) 4
theorem FR.all_len (f : FR) : f.all.length = 14 + f.d.length := by unfold FR.all; rw [List.length_append, FR.front_len, beB_length]; omega
theorem FR.all_bytes {f : FR} (ho : f.ok) : Bytes f.all := (FR.front_bytes ho.2.2.2).append (beB_bytes _ _)
theorem readF_all {f : FR} (hp : f.mayP) (ho : f.ok) : readF f.all = (f, 0) := by
  have hf := FR.frameOf_front hp ho (beB (sumOf f.front) 4)
  have hl := FR.lenAt_front hp (beB (sumOf f.front) 4)
  have hn := FR.all_len f
  have h := readF_good (b := f.all) (by unfold FR.all at hn ⊢; rw [hl]; exact hn) (by
    unfold FR.all
    rw [hl, FR.take_front, FR.drop_front]
    exact getF_beB4 (sumOf_range _).1 (sumOf_range _).2) (by unfold FR.all; rw [hf]; exact hp)
  rw [h]
  unfold FR.all
  rw [hf]
theorem readF_err {b : List Int} (h : (readF b).2 ≠ 0) : (readF b).1 = FR.zero := by
  unfold readF at h ⊢
  repeat' split
  all_goals first | rfl | skip
  exfalso
  apply h
  rw [if_neg (by assumption), if_neg (by assumption), if_neg (by assumption), if_neg (by assumption), if_pos (by assumption)]
theorem readF_cases {b : List Int} (h : (readF b).2 = 0) : b.length = 14 + lenAt b ∧ getF (b.drop (10 + lenAt b)) = sumOf (b.take (10 + lenAt b)) ∧ (frameOf b).mayP ∧ readF b = (frameOf b, 0) := by
  unfold readF at h
  split at h
  · exact absurd h (by decide)
  split at h
  · exact absurd h (by decide)
  split at h
  · exact absurd h (by decide)
  split at h
  · exact absurd h (by decide)
  split at h
  · rename_i h1 h2 h3 h4 h5
    have h6 : b.length = 14 + lenAt b := by omega
    have h7 : getF (b.drop (10 + lenAt b)) = sumOf (b.take (10 + lenAt b)) := by simpa using h4
    exact ⟨h6, h7, h5, readF_good h6 h7 h5⟩
  · exact absurd h (by decide)
theorem FR.zero_ok : FR.zero.ok := ⟨by decide, by decide, by decide, Bytes.nil⟩
theorem frameOf_ok {b : List Int} (hb : Bytes b) : (frameOf b).ok := by
  have h4 := getF_range hb 4
  have hs : 0 ≤ getF (b.take 4) ∧ getF (b.take 4) < 4294967296 := by
    by_cases h : 4 ≤ b.length
    · exact getF_range hb 4 h
    · have h5 := getF_range hb b.length (Nat.le_refl _)
      rw [List.take_of_length_le (Nat.le_refl _)] at h5
      rw [List.take_of_length_le (by omega)]
      refine ⟨h5.1, Int.lt_of_lt_of_le h5.2 ?_⟩
      have : b.length = 0 ∨ b.length = 1 ∨ b.length = 2 ∨ b.length = 3 := by omega
      rcases this with h | h | h | h <;> rw [h] <;> decide
  have two : ∀ k : Nat, 0 ≤ getF ((b.drop k).take 2) ∧ getF ((b.drop k).take 2) < 65536 := fun k => by
    by_cases h : 2 ≤ (b.drop k).length
    · exact getF_range (hb.drop k) 2 h
    · have h5 := getF_range (hb.drop k) (b.drop k).length (Nat.le_refl _)
      rw [List.take_of_length_le (Nat.le_refl _)] at h5
      rw [List.take_of_length_le (by omega)]
      refine ⟨h5.1, Int.lt_of_lt_of_le h5.2 ?_⟩
      have : (b.drop k).length = 0 ∨ (b.drop k).length = 1 := by omega
      rcases this with h | h <;> rw [h] <;> decide
  exact ⟨hs, ⟨by have := (two 4).1; show -9223372036854775808 ≤ getF _; omega, by have := (two 4).2; show getF _ ≤ 9223372036854775807; omega⟩, ⟨by have := (two 6).1; show -9223372036854775808 ≤ getF _; omega, by have := (two 6).2; show getF _ ≤ 9223372036854775807; omega⟩, (hb.drop 10).take _⟩
theorem readF_ok {b : List Int} (hb : Bytes b) : (readF b).1.ok := by
  by_cases h : (readF b).2 = 0
  · rw [(readF_cases h).2.2.2]; exact frameOf_ok hb
  · rw [readF_err h]; exact FR.zero_ok
theorem FR.zero_may : ¬ FR.zero.mayP := fun h => h.1 rfl
/-- what is read is written again as it stood -/
theorem write_readF {b : List Int} (hb : Bytes b) (h : (readF b).2 = 0) : (readF b).1.write = (b, 0) := by
  obtain ⟨hl, hs, hp, hr⟩ := readF_cases h
  rw [hr]
  show (frameOf b).write = (b, 0)
  rw [FR.write_good hp]
  have hlen : (frameOf b).d.length = lenAt b := by
    show ((b.drop 10).take (lenAt b)).length = lenAt b
    rw [List.length_take, List.length_drop]; omega
  have hln := (lenAt_get hb (by omega)).1
  have hf : (frameOf b).front = b.take (10 + lenAt b) := by
    unfold FR.front
    rw [hlen]
    show beB (getF (b.take 4)) 4 ++ (twoB (getF ((b.drop 4).take 2)) ++ (twoB (getF ((b.drop 6).take 2)) ++ (twoB ((lenAt b : Nat) : Int) ++ (b.drop 10).take (lenAt b)))) = _
    rw [hln, beB_getF4 (hb.take 4) (by rw [List.length_take]; omega), twoB_getF ((hb.drop 4).take 2) (by rw [List.length_take, List.length_drop]; omega), twoB_getF ((hb.drop 6).take 2) (by rw [List.length_take, List.length_drop]; omega), twoB_getF ((hb.drop 8).take 2) (by rw [List.length_take, List.length_drop]; omega)]
    have e : ∀ i j : Nat, (b.drop i).take j ++ b.drop (i + j) = b.drop i := fun i j => by
      rw [← List.drop_drop]; exact List.take_append_drop j (b.drop i)
    have t : ∀ i j m : Nat, (b.drop i).take j ++ (b.drop (i + j)).take m = (b.drop i).take (j + m) := fun i j m => by
      rw [← List.drop_drop, List.take_add]
    rw [show (b.drop 10) = b.drop (8 + 2) from rfl, t 8 2, show (b.drop 8) = b.drop (6 + 2) from rfl, t 6 2, show (b.drop 6) = b.drop (4 + 2) from rfl, t 4 2]
    have := t 0 4 (2 + (2 + (2 + lenAt b)))
    rw [List.drop_zero] at this
    rw [show (b.drop 4) = b.drop (0 + 4) from rfl, this]
    congr 1
    omega
  rw [hf, ← hs, beB_getF4 (hb.drop _) (by rw [List.length_drop]; omega), List.take_append_drop]
/-- a frame that is turned in one byte is none -/
theorem readF_turned {f : FR} (hp : f.mayP) (ho : f.ok) {n : Nat} (hn : n < f.all.length) {y : Int} (hy : Byte y) (hne : f.all.getD n 0 ≠ y) : (readF (f.all.set n y)).2 ≠ 0 := by
  intro h
  obtain ⟨hl, hs, _, _⟩ := readF_cases h
  rw [List.length_set, FR.all_len] at hl
  have hlen : lenAt (f.all.set n y) = f.d.length := by omega
  rw [hlen] at hs
  have hal := FR.all_len f
  by_cases hc : n < 10 + f.d.length
  · rw [List.drop_set_of_lt hc, List.take_set] at hs
    unfold FR.all at hs hne
    rw [FR.drop_front, FR.take_front, getF_beB4 (sumOf_range _).1 (sumOf_range _).2] at hs
    have hfn : n < f.front.length := by rw [FR.front_len]; exact hc
    refine sumOf_turned (FR.front_bytes ho.2.2.2) hfn hy ?_ hs
    rw [List.getD_eq_getElem?_getD, List.getElem?_append_left hfn] at hne
    rw [List.getD_eq_getElem?_getD]
    exact hne
  · have hfl := FR.front_len f
    have e : f.all.set n y = f.front ++ (beB (sumOf f.front) 4).set (n - f.front.length) y := by
      unfold FR.all
      rw [List.set_append_right _ _ (by omega)]
    rw [e, FR.drop_front, FR.take_front] at hs
    have hb4 : ((beB (sumOf f.front) 4).set (n - f.front.length) y).length = 4 := by rw [List.length_set, beB_length]
    have hbb : Bytes ((beB (sumOf f.front) 4).set (n - f.front.length) y) := (beB_bytes _ _).set hy _
    have h2 := beB_getF4 hbb hb4
    rw [hs] at h2
    have hm : n - f.front.length < (beB (sumOf f.front) 4).length := by rw [beB_length]; omega
    have h3 : ((beB (sumOf f.front) 4).set (n - f.front.length) y).getD (n - f.front.length) 0 = y := by
      rw [List.getD_eq_getElem?_getD, List.getElem?_set_self hm]; rfl
    rw [← h2] at h3
    apply hne
    unfold FR.all
    rw [List.getD_eq_getElem?_getD, List.getElem?_append_right (by omega), ← List.getD_eq_getElem?_getD]
    exact h3
theorem readF_cut {f : FR} (hp : f.mayP) {n : Nat} (hn : n < f.all.length) : readF (f.all.take n) = (FR.zero, 11) := by
  have hal := FR.all_len f
  have hl : (f.all.take n).length = n := by rw [List.length_take]; omega
  by_cases h : n < 14
  · unfold readF
    rw [if_pos (by omega)]
  · refine readF_short (by omega) ?_
    have e : lenAt (f.all.take n) = lenAt f.all := by
      unfold lenAt
      rw [List.getD_eq_getElem?_getD, List.getD_eq_getElem?_getD, List.getD_eq_getElem?_getD, List.getD_eq_getElem?_getD, List.getElem?_take_of_lt (by omega), List.getElem?_take_of_lt (by omega)]
    have h2 : lenAt f.all = f.d.length := FR.lenAt_front hp _
    omega
theorem readF_more {f : FR} (hp : f.mayP) {t : List Int} (ht : 0 < t.length) : readF (f.all ++ t) = (FR.zero, 2) := by
  have hal := FR.all_len f
  have e : f.all ++ t = f.front ++ (beB (sumOf f.front) 4 ++ t) := by unfold FR.all; rw [List.append_assoc]
  have h2 : lenAt (f.all ++ t) = f.d.length := by rw [e]; exact FR.lenAt_front hp _
  refine readF_long (by rw [List.length_append]; omega) ?_
  rw [h2, List.length_append]
  omega
theorem all_inj {f g : FR} (hp : f.mayP) (ho : f.ok) (hp' : g.mayP) (ho' : g.ok) (h : f.all = g.all) : f = g := by
  have h1 := readF_all hp ho
  have h2 := readF_all hp' ho'
  rw [h, h2] at h1
  exact (congrArg Prod.fst h1).symm
/-- are two frames alike? -/
def same (f g : FR) : Bool := f.s == g.s && f.q == g.q && f.k == g.k && f.d == g.d
theorem same_iff (f g : FR) : same f g = true ↔ f = g := by
  unfold same
  simp only [Bool.and_eq_true, beq_iff_eq]
  constructor
  · rintro ⟨⟨⟨h1, h2⟩, h3⟩, h4⟩
    exact FR.ext h1 h2 h3 h4
  · rintro rfl
    exact ⟨⟨⟨rfl, rfl⟩, rfl⟩, rfl⟩
theorem same_self (f : FR) : same f f = true := (same_iff f f).2 rfl
theorem same_not {f g : FR} (h : f ≠ g) : same f g = false := by
  cases hs : same f g
  · rfl
  · exact absurd ((same_iff f g).1 hs) h
theorem FR.write_all {f : FR} (h : f.mayP) : f.write = (f.all, 0) := FR.write_good h
end Go.Proofs.YtpkclecgaheplaaR.M
