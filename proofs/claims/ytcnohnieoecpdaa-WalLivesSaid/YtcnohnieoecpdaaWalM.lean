import Derived.Test.YtcnohnieoecpdaaMath
/- Plain records of a log: no program in sight. -/
namespace Go.Proofs.Ytcnohnieoecpdaa.M
abbrev Rc := Int × List Int
def Rc.good (r : Rc) : Prop := 1 ≤ r.1 ∧ r.1 ≤ 255 ∧ r.2.length ≤ 1024
instance (r : Rc) : Decidable r.good := by unfold Rc.good; infer_instance
def Rc.front (r : Rc) : List Int := (r.2.length : Int) / 256 :: (r.2.length : Int) % 256 :: r.1 :: r.2
def Rc.all (r : Rc) : List Int := r.front ++ beB (sumOf r.front) 4
def writeR (r : Rc) : List Int × Int := if r.1 < 1 ∨ 255 < r.1 then ([], 30) else if 1024 < r.2.length then ([], 2) else (r.all, 0)
/-- how long the body at the front is -/
def lenR (b : List Int) : Nat := (256 * b.getD 0 0 + b.getD 1 0).toNat
/-- does a record stand at the front? -/
def isR (b : List Int) : Prop := 7 ≤ b.length ∧ b.getD 2 0 ≠ 0 ∧ lenR b ≤ 1024 ∧ 7 + lenR b ≤ b.length ∧ getF ((b.drop (3 + lenR b)).take 4) = sumOf (b.take (3 + lenR b))
instance (b : List Int) : Decidable (isR b) := by unfold isR; infer_instance
def recR (b : List Int) : Rc := (b.getD 2 0, (b.drop 3).take (lenR b))
/-- the records at the front, and where each ends -/
def readL (at_ : Nat) (b : List Int) : List (Nat × Rc) :=
  if h : isR b then (at_ + (7 + lenR b), recR b) :: readL (at_ + (7 + lenR b)) (b.drop (7 + lenR b)) else []
termination_by b.length
decreasing_by have := h.2.2.2.1; rw [List.length_drop]; omega
theorem readL_no {b : List Int} (h : ¬ isR b) (at_ : Nat) : readL at_ b = [] := by rw [readL, dif_neg h]
theorem readL_yes {b : List Int} (h : isR b) (at_ : Nat) : readL at_ b = (at_ + (7 + lenR b), recR b) :: readL (at_ + (7 + lenR b)) (b.drop (7 + lenR b)) := by rw [readL, dif_pos h]
theorem lenR_lt {b : List Int} (hb : Bytes b) : ((lenR b : Nat) : Int) = 256 * b.getD 0 0 + b.getD 1 0 ∧ lenR b < 65536 := by
  have h0 := hb.getD 0
  have h1 := hb.getD 1
  unfold Byte at h0 h1
  unfold lenR
  omega
theorem Rc.front_len (r : Rc) : r.front.length = 3 + r.2.length := by unfold Rc.front; simp only [List.length_cons]; omega
theorem Rc.all_len (r : Rc) : r.all.length = 7 + r.2.length := by unfold Rc.all; rw [List.length_append, Rc.front_len, beB_length]; omega
theorem Rc.front_bytes {r : Rc} (hg : r.good) (hb : Bytes r.2) : Bytes r.front := by
  obtain ⟨h1, h2, h3⟩ := hg
  exact Bytes.cons ⟨by omega, by omega⟩ (Bytes.cons ⟨by omega, by omega⟩ (Bytes.cons ⟨by omega, by omega⟩ hb))
theorem Rc.all_bytes {r : Rc} (hg : r.good) (hb : Bytes r.2) : Bytes r.all := (Rc.front_bytes hg hb).append (beB_bytes _ _)
theorem writeR_good {r : Rc} (h : r.good) : writeR r = (r.all, 0) := by
  obtain ⟨h1, h2, h3⟩ := h
  unfold writeR
  rw [if_neg (by omega), if_neg (by omega)]
theorem writeR_kind {r : Rc} (h : r.1 < 1 ∨ 255 < r.1) : writeR r = ([], 30) := by unfold writeR; rw [if_pos h]
theorem writeR_long {r : Rc} (h : ¬ (r.1 < 1 ∨ 255 < r.1)) (h2 : 1024 < r.2.length) : writeR r = ([], 2) := by unfold writeR; rw [if_neg h, if_pos h2]
theorem writeR_not {r : Rc} (h : ¬ r.good) : (writeR r).1 = [] ∧ (writeR r).2 ≠ 0 := by
  by_cases h1 : r.1 < 1 ∨ 255 < r.1
  · rw [writeR_kind h1]; exact ⟨rfl, by decide⟩
  · by_cases h2 : 1024 < r.2.length
    · rw [writeR_long h1 h2]; exact ⟨rfl, by decide⟩
    · exact absurd ⟨by omega, by omega, by omega⟩ h
theorem getF4r {v : Int} (h0 : 0 ≤ v) (h : v < 4294967296) : getF (beB v 4) = v := by
  have e : beB v 4 = [v / 16777216 % 256, v / 65536 % 256, v / 256 % 256, v % 256] := by simp [beB, List.range, List.range.loop, beAt]
  rw [e]; simp [getF]; omega
theorem beB_getF4r {xs : List Int} (hx : Bytes xs) (h : xs.length = 4) : beB (getF xs) 4 = xs := by
  match xs, h, hx with
  | [a, b, c, d], _, hx =>
    have ha := hx a (by simp)
    have hb := hx b (by simp)
    have hc := hx c (by simp)
    have hd := hx d (by simp)
    unfold Byte at ha hb hc hd
    have e : ∀ v : Int, beB v 4 = [v / 16777216 % 256, v / 65536 % 256, v / 256 % 256, v % 256] := fun v => by simp [beB, List.range, List.range.loop, beAt]
    rw [e]
    simp only [getF, List.foldl_cons, List.foldl_nil]
    congr 1
    · omega
    congr 1
    · omega
    congr 1
    · omega
    congr 1
    omega
theorem all_split (r : Rc) (t : List Int) : r.all ++ t = (r.2.length : Int) / 256 :: (r.2.length : Int) % 256 :: r.1 :: (r.2 ++ (beB (sumOf r.front) 4 ++ t)) := by
  unfold Rc.all Rc.front
  simp
theorem lenR_all {r : Rc} (hg : r.good) (t : List Int) : lenR (r.all ++ t) = r.2.length := by
  have := hg.2.2
  rw [all_split]
  show (256 * ((r.2.length : Int) / 256) + (r.2.length : Int) % 256).toNat = r.2.length
  omega
theorem isR_all {r : Rc} (hg : r.good) (t : List Int) : isR (r.all ++ t) ∧ recR (r.all ++ t) = r ∧ (r.all ++ t).drop (7 + lenR (r.all ++ t)) = t := by
  have hl := lenR_all hg t
  have ha := Rc.all_len r
  have hf := Rc.front_len r
  refine ⟨⟨by rw [List.length_append]; omega, ?_, by rw [hl]; exact hg.2.2, by rw [hl, List.length_append]; omega, ?_⟩, ?_, ?_⟩
  · rw [all_split]
    show r.1 ≠ 0
    have := hg.1
    omega
  · rw [hl]
    have e : r.all ++ t = r.front ++ (beB (sumOf r.front) 4 ++ t) := by unfold Rc.all; rw [List.append_assoc]
    rw [e, ← hf, List.drop_left' rfl, List.take_left' rfl, List.take_left' (by rw [beB_length])]
    exact getF4r (sumOf_range _).1 (sumOf_range _).2
  · unfold recR
    rw [hl, all_split]
    show (r.1, (r.2 ++ (beB (sumOf r.front) 4 ++ t)).take r.2.length) = r
    rw [List.take_left' rfl]
  · rw [hl, ← ha, List.drop_left' rfl]
theorem readL_all {r : Rc} (hg : r.good) (t : List Int) (at_ : Nat) : readL at_ (r.all ++ t) = (at_ + r.all.length, r) :: readL (at_ + r.all.length) t := by
  obtain ⟨h1, h2, h3⟩ := isR_all hg t
  rw [readL_yes h1, h2, h3, lenR_all hg, Rc.all_len]
/-- what is read was written so -/
theorem isR_back {b : List Int} (hb : Bytes b) (h : isR b) : (recR b).good ∧ (recR b).all = b.take (7 + lenR b) ∧ Bytes (recR b).2 ∧ (recR b).2.length = lenR b := by
  obtain ⟨h7, h2, hn, hl, hs⟩ := h
  have hk := hb.getD 2
  have h0 := hb.getD 0
  have h1 := hb.getD 1
  unfold Byte at hk h0 h1
  have hlen : ((b.drop 3).take (lenR b)).length = lenR b := by rw [List.length_take, List.length_drop]; omega
  have hLn := (lenR_lt hb).1
  have hfr : (recR b).front = b.take (3 + lenR b) := by
    unfold Rc.front recR
    dsimp only
    rw [hlen]
    have e : b = b.getD 0 0 :: b.getD 1 0 :: b.getD 2 0 :: b.drop 3 := by
      rw [List.getD_eq_getElem?_getD, List.getD_eq_getElem?_getD, List.getD_eq_getElem?_getD, List.getElem?_eq_getElem (show 0 < b.length by omega), List.getElem?_eq_getElem (show 1 < b.length by omega), List.getElem?_eq_getElem (show 2 < b.length by omega)]
      conv => lhs; rw [← List.drop_zero (l := b), List.drop_eq_getElem_cons (by omega), List.drop_eq_getElem_cons (by omega), List.drop_eq_getElem_cons (by omega)]
      rfl
    have e2 : ∀ n, b.take (3 + n) = b.getD 0 0 :: b.getD 1 0 :: b.getD 2 0 :: (b.drop 3).take n := fun n => by
      conv => lhs; rw [e]
      rw [show 3 + n = n + 1 + 1 + 1 by omega, List.take_succ_cons, List.take_succ_cons, List.take_succ_cons]
    rw [e2]
    congr 1
    · omega
    congr 1
    omega
  refine ⟨⟨by show 1 ≤ b.getD 2 0; omega, by show b.getD 2 0 ≤ 255; omega, by show ((b.drop 3).take (lenR b)).length ≤ 1024; omega⟩, ?_, (hb.drop 3).take _, hlen⟩
  unfold Rc.all
  rw [hfr, ← hs, beB_getF4r ((hb.drop _).take 4) (by rw [List.length_take, List.length_drop]; omega)]
  rw [show 7 + lenR b = 3 + lenR b + 4 by omega]
  generalize 3 + lenR b = m
  rw [List.take_add]
/-- bytes of records, one behind the other -/
def allB (l : List Rc) : List Int := l.flatMap Rc.all
theorem allB_cons (r : Rc) (l : List Rc) : allB (r :: l) = r.all ++ allB l := rfl
theorem allB_snoc (l : List Rc) (r : Rc) : allB (l ++ [r]) = allB l ++ r.all := by unfold allB; rw [List.flatMap_append]; simp
/-- where each ends -/
def endsR (at_ : Nat) : List Rc → List (Nat × Rc)
  | [] => []
  | r :: l => (at_ + r.all.length, r) :: endsR (at_ + r.all.length) l
theorem endsR_map (l : List Rc) : ∀ at_, (endsR at_ l).map (·.2) = l := by
  induction l with
  | nil => intro _; rfl
  | cons r l ih => intro at_; simp [endsR, ih]
theorem readL_allB {l : List Rc} (hg : ∀ r ∈ l, r.good) : ∀ (t : List Int) (at_ : Nat), readL at_ (allB l ++ t) = endsR at_ l ++ readL (at_ + (allB l).length) t := by
  induction l with
  | nil => intro t at_; rfl
  | cons r l ih =>
    intro t at_
    rw [allB_cons, List.append_assoc, readL_all (hg r (by simp)), ih (fun q hq => hg q (by simp [hq])), List.length_append]
    show _ = (at_ + r.all.length, r) :: endsR (at_ + r.all.length) l ++ _
    rw [Nat.add_assoc]
    rfl
/-- a record that is cut is none -/
theorem isR_cut {r : Rc} (hg : r.good) {n : Nat} (hn : n < r.all.length) : ¬ isR (r.all.take n) := by
  intro h
  obtain ⟨h7, _, _, hl, _⟩ := h
  have ha := Rc.all_len r
  rw [List.length_take] at h7 hl
  have e : lenR (r.all.take n) = r.2.length := by
    have := lenR_all hg []
    rw [List.append_nil] at this
    rw [← this]
    unfold lenR
    rw [List.getD_eq_getElem?_getD, List.getD_eq_getElem?_getD, List.getD_eq_getElem?_getD, List.getD_eq_getElem?_getD, List.getElem?_take_of_lt (by omega), List.getElem?_take_of_lt (by omega)]
  omega
/-- a record that is turned in its kind or body is none -/
theorem isR_turned {r : Rc} (hg : r.good) (hb : Bytes r.2) {n : Nat} (hn : n ≤ r.2.length) {y : Int} (hy : Byte y) (hne : r.all.getD (2 + n) 0 ≠ y) (t : List Int) : ¬ isR ((r.all.set (2 + n) y) ++ t) := by
  intro h
  obtain ⟨h7, hk, hln, hl, hs⟩ := h
  have ha := Rc.all_len r
  have hf := Rc.front_len r
  have e : lenR ((r.all.set (2 + n) y) ++ t) = r.2.length := by
    rw [← lenR_all hg t]
    unfold lenR
    rw [List.getD_eq_getElem?_getD, List.getD_eq_getElem?_getD, List.getD_eq_getElem?_getD, List.getD_eq_getElem?_getD]
    rw [List.getElem?_append_left (by rw [List.length_set]; omega), List.getElem?_append_left (by rw [List.length_set]; omega), List.getElem?_append_left (by omega), List.getElem?_append_left (by omega), List.getElem?_set_ne (by omega), List.getElem?_set_ne (by omega)]
  rw [e] at hs
  have e2 : r.all.set (2 + n) y ++ t = r.front.set (2 + n) y ++ (beB (sumOf r.front) 4 ++ t) := by
    unfold Rc.all
    rw [List.set_append_left _ _ (by omega), List.append_assoc]
  rw [e2, show 3 + r.2.length = (r.front.set (2 + n) y).length by rw [List.length_set]; omega, List.drop_left' rfl, List.take_left' rfl, List.take_left' (by rw [beB_length]), getF4r (sumOf_range _).1 (sumOf_range _).2] at hs
  refine sumOf_turned (Rc.front_bytes hg hb) (by omega : 2 + n < r.front.length) hy ?_ hs
  unfold Rc.all at hne
  rw [List.getD_eq_getElem?_getD, List.getElem?_append_left (by omega)] at hne
  rw [List.getD_eq_getElem?_getD]
  exact hne
end Go.Proofs.Ytcnohnieoecpdaa.M
