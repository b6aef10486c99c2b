import Derived.Test.YtpkclecgaheplaaRMath
/- Plain frames: no program in sight. -/
namespace Go.Proofs.YtpkclecgaheplaaR.M
structure FR where
  s : Int
  q : Int
  k : Int
  d : List Int
def FR.ok (f : FR) : Prop := (0 ≤ f.s ∧ f.s < 4294967296) ∧ (-9223372036854775808 ≤ f.q ∧ f.q ≤ 9223372036854775807) ∧ (-9223372036854775808 ≤ f.k ∧ f.k ≤ 9223372036854775807) ∧ Bytes f.d
def FR.zero : FR := ⟨0, 0, 0, []⟩
def FR.mayP (f : FR) : Prop := f.s ≠ 0 ∧ (0 ≤ f.q ∧ f.q ≤ 65535) ∧ (0 ≤ f.k ∧ f.k ≤ 65535) ∧ f.d.length ≤ 256
instance (f : FR) : Decidable f.mayP := by unfold FR.mayP; infer_instance
def FR.mayB (f : FR) : Bool := decide f.mayP
def twoB (n : Int) : List Int := [n / 256 % 256, n % 256]
def FR.front (f : FR) : List Int := beB f.s 4 ++ (twoB f.q ++ (twoB f.k ++ (twoB f.d.length ++ f.d)))
def FR.write (f : FR) : List Int × Int := if f.mayP then (f.front ++ beB (sumOf f.front) 4, 0) else ([], 70)
def lenAt (b : List Int) : Nat := (256 * b.getD 8 0 + b.getD 9 0).toNat
def frameOf (b : List Int) : FR := ⟨getF (b.take 4), getF ((b.drop 4).take 2), getF ((b.drop 6).take 2), (b.drop 10).take (lenAt b)⟩
def readF (b : List Int) : FR × Int :=
  if b.length < 14 then (FR.zero, 11)
  else if b.length < 14 + lenAt b then (FR.zero, 11)
  else if 14 + lenAt b < b.length then (FR.zero, 2)
  else if getF (b.drop (10 + lenAt b)) ≠ sumOf (b.take (10 + lenAt b)) then (FR.zero, 31)
  else if (frameOf b).mayP then (frameOf b, 0) else (FR.zero, 70)
theorem twoB_bytes (n : Int) : Bytes (twoB n) := Bytes.cons ⟨by omega, by omega⟩ (Bytes.cons ⟨by omega, by omega⟩ Bytes.nil)
theorem FR.front_len (f : FR) : f.front.length = 10 + f.d.length := by
  unfold FR.front twoB
  simp only [List.length_append, beB_length, List.length_cons, List.length_nil]
  omega
theorem FR.front_bytes {f : FR} (h : Bytes f.d) : Bytes f.front := (beB_bytes _ _).append ((twoB_bytes _).append ((twoB_bytes _).append ((twoB_bytes _).append h)))
theorem FR.write_bytes {f : FR} (h : Bytes f.d) : Bytes f.write.1 := by
  unfold FR.write
  split
  · exact (FR.front_bytes h).append (beB_bytes _ _)
  · exact Bytes.nil
theorem FR.write_good {f : FR} (h : f.mayP) : f.write = (f.front ++ beB (sumOf f.front) 4, 0) := by unfold FR.write; rw [if_pos h]
theorem FR.write_bad {f : FR} (h : ¬ f.mayP) : f.write = ([], 70) := by unfold FR.write; rw [if_neg h]
theorem drop_take_two {b : List Int} {k : Nat} (h : k + 2 ≤ b.length) : (b.drop k).take 2 = [b.getD k 0, b.getD (k + 1) 0] := by
  rw [List.drop_eq_getElem_cons (show k < b.length by omega), List.drop_eq_getElem_cons (show k + 1 < b.length by omega)]
  rw [List.getD_eq_getElem?_getD, List.getD_eq_getElem?_getD, List.getElem?_eq_getElem (show k < b.length by omega), List.getElem?_eq_getElem (show k + 1 < b.length by omega)]
  rfl
theorem getF_pair (x y : Int) : getF [x, y] = 256 * x + y := by simp [getF]
theorem lenAt_get {b : List Int} (hb : Bytes b) (h : 14 ≤ b.length) : ((lenAt b : Nat) : Int) = getF ((b.drop 8).take 2) ∧ lenAt b < 65536 := by
  rw [drop_take_two (by omega), getF_pair]
  have h8 := hb.getD 8
  have h9 := hb.getD 9
  unfold Byte at h8 h9
  unfold lenAt
  simp only [Nat.reduceAdd]
  omega
theorem readF_short {b : List Int} (h : 14 ≤ b.length) (h2 : b.length < 14 + lenAt b) : readF b = (FR.zero, 11) := by unfold readF; rw [if_neg (by omega), if_pos h2]
theorem readF_long {b : List Int} (h : 14 ≤ b.length) (h2 : 14 + lenAt b < b.length) : readF b = (FR.zero, 2) := by unfold readF; rw [if_neg (by omega), if_neg (by omega), if_pos h2]
theorem readF_sum {b : List Int} (h : b.length = 14 + lenAt b) (h2 : getF (b.drop (10 + lenAt b)) ≠ sumOf (b.take (10 + lenAt b))) : readF b = (FR.zero, 31) := by unfold readF; rw [if_neg (by omega), if_neg (by omega), if_neg (by omega), if_pos h2]
theorem readF_may {b : List Int} (h : b.length = 14 + lenAt b) (h2 : getF (b.drop (10 + lenAt b)) = sumOf (b.take (10 + lenAt b))) (h3 : ¬ (frameOf b).mayP) : readF b = (FR.zero, 70) := by unfold readF; rw [if_neg (by omega), if_neg (by omega), if_neg (by omega), if_neg (by simpa using h2), if_neg h3]
theorem readF_good {b : List Int} (h : b.length = 14 + lenAt b) (h2 : getF (b.drop (10 + lenAt b)) = sumOf (b.take (10 + lenAt b))) (h3 : (frameOf b).mayP) : readF b = (frameOf b, 0) := by unfold readF; rw [if_neg (by omega), if_neg (by omega), if_neg (by omega), if_neg (by simpa using h2), if_pos h3]
end Go.Proofs.YtpkclecgaheplaaR.M
