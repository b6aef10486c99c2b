
import Derived.Test.YtobljkhidgbeoaaZ00
import Derived.Test.YtobljkhidgbeoaaZ01
import Derived.Test.YtobljkhidgbeoaaZ02
import Derived.Test.YtobljkhidgbeoaaZ26
import Derived.Test.YtobljkhidgbeoaaZ27
/- Plain records of a log: no program in sight. -/
namespace Go.Proofs.Ytobljkhidgbeoaa.M
abbrev Rc := Int × List Int
def Rc.good (r : Rc) : Prop := 1 ≤ r.1 ∧ r.1 ≤ 255 ∧ r.2.length ≤ 1024
instance (r : Rc) : Decidable r.good := by unfold Rc.good; infer_instance
def Rc.front (r : Rc) : List Int := (r.2.length : Int) / 256 :: (r.2.length : Int) % 256 :: r.1 :: r.2
def Rc.all (r : Rc) : List Int := r.front ++ beB (sumOf r.front) 4
def writeR (r : Rc) : List Int × Int := if r.1 < 1 ∨ 255 < r.1 then ([], 30) else if 1024 < r.2.length then ([], 2) else (r.all, 0)
/-- how long the body at the front is -/
def lenR (b : List Int) : Nat := (256 * b.getD 0 0 + b.getD 1 0).toNat
/-- does a record stand at the front? -/
def isR (b : List Int) : Prop := 7 ≤ b.length ∧ b.getD 2 0 ≠ 0 ∧ lenR b ≤ 1024 ∧ 7 + lenR b ≤ b.length ∧ getF ((b.drop (3 + lenR b)).take 4) = sumOf (b.take (3 + lenR b))
instance (b : List Int) : Decidable (isR b) := by unfold isR; infer_instance
def recR (b : List Int) : Rc := (b.getD 2 0, (b.drop 3).take (lenR b))
/-- the records at the front, and where each ends -/
def readL (at_ : Nat) (b : List Int) : List (Nat × Rc) :=
  if h : isR b then (at_ + (7 + lenR b), recR b) :: readL (at_ + (7 + lenR b)) (b.drop (7 + lenR b)) else []
termination_by b.length
decreasing_by have := h.2.2.2.1; rw [List.length_drop]; omega
theorem readL_no {b : List Int} (h : ¬ isR b) (at_ : Nat) : readL at_ b = [] := by rw [readL, dif_neg h]
theorem readL_yes {b : List Int} (h : isR b) (at_ : Nat) : readL at_ b = (at_ + (7 + lenR b), recR b) :: readL (at_ + (7 + lenR b)) (b.drop (7 + lenR b)) := by rw [readL, dif_pos h]
theorem lenR_lt {b : List Int} (hb : Bytes b) : ((lenR b : Nat) : Int) = 256 * b.getD 0 0 + b.getD 1 0 ∧ lenR b < 65536 := by
  have h0 := hb.getD 0
  have h1 := hb.getD 1
  unfold Byte at h0 h1
  unfold lenR
  omega
theorem Rc.front_len (r : Rc) : r.front.length = 3 + r.2.length := by unfold Rc.front; simp only [List.length_cons]; omega
theorem Rc.all_len (r : Rc) : r.all.length = 7 + r.2.length := by unfold Rc.all; rw [List.length_append, Rc.front_len, beB_length]; omega
theorem Rc.front_bytes {r : Rc} (hg : r.good) (hb : Bytes r.2) : Bytes r.front := by
  obtain ⟨h1, h2, h3⟩ := hg
  exact Bytes.cons ⟨by omega, by omega⟩ (Bytes.cons ⟨by omega, by omega⟩ (Bytes.cons ⟨by omega, by omega⟩ hb))
theorem Rc.all_bytes {r : Rc} (hg : r.good) (hb : Bytes r.2) : Bytes r.all := (Rc.front_bytes hg hb).append (beB_bytes _ _)
theorem writeR_good {r : Rc} (h : r.good) : writeR r = (r.all, 0) := by
  obtain ⟨h1, h2, h3⟩ := h
  unfold writeR
  rw [if_neg (by omega), if_neg (by omega)]
theorem writeR_kind {r : Rc} (h : r.1 < 1 ∨ 255 < r.1) : writeR r = ([], 30) := by unfold writeR; rw [if_pos h]
theorem writeR_long {r : Rc} (h : ¬ (r.1 < 1 ∨ 255 < r.1)) (h2 : 1024 < r.2.length) : writeR r = ([], 2) := by unfold writeR; rw [if_neg h, if_pos h2]
theorem writeR_not {r : Rc} (h : ¬ r.good) : (writeR r).1 = [] ∧ (writeR r).2 ≠ 0 := by
  by_cases h1 : r.1 < 1 ∨ 255 < r.1
  · rw [writeR_kind h1]; exact ⟨rfl, by decide⟩
  · by_cases h2 : 1024 < r.2.length
    · rw [writeR_long h1 h2]; exact ⟨rfl, by decide⟩
    · exact absurd ⟨by omega, by omega, by omega⟩ h
theorem getF4r {v : Int} (h0 : 0 ≤ v) (h : v < 4294967296) : getF (beB v 4) = v := by
  have e : beB v 4 = [v / 16777216 % 256, v / 65536 % 256, v / 256 % 256, v % 256] := by simp [beB, List.range, List.range.loop, beAt]
  rw [e]; simp [getF]; omega
theorem beB_getF4r {xs : List Int} (hx : Bytes xs) (h : xs.length = 4) : beB (getF xs) 4 = xs := by
  match xs, h, hx with
  | [a, b, c, d], _, hx =>
    have ha := hx a (by simp)
    have hb := hx b (by simp)
    have hc := hx c (by simp)
    have hd := hx d (by simp)
    unfold Byte at ha hb hc hd
    have e : ∀ v : Int, beB v 4 = [v / 16777216 % 256, v / 65536 % 256, v / 256 % 256, v % 256] := fun v => by simp [beB, List.range, List.range.loop, beAt]
    rw [e]
    simp only [getF, List.foldl_cons, List.foldl_nil]
    congr 1
    · omega
    congr 1
    · omega
    congr 1
    · omega
    congr 1
    omega
theorem all_split (r : Rc) (t : List Int) : r.all ++ t = (r.2.length : Int) / 256 :: (r.2.length : Int) % 256 :: r.1 :: (r.2 ++ (beB (sumOf r.front) 4 ++ t)) := by
  unfold Rc.all Rc.front
  simp
theorem lenR_all {r : Rc} (hg : r.good) (t : List Int) : lenR (r.all ++ t) = r.2.length := by
  have := hg.2.2
  rw [all_split]
  show (256 * ((r.2.length : Int) / 256) + (r.2.length : Int) % 256).toNat = r.2.length
  omega
theorem isR_all {r : Rc} (hg : r.good) (t : List Int) : isR (r.all ++ t) ∧ recR (r.all ++ t) = r ∧ (r.all ++ t).drop (7 + lenR (r.all ++ t)) = t := by
  have hl := lenR_all hg t
  have ha := Rc.all_len r
  have hf := Rc.front_len r
  refine ⟨⟨by rw [List.length_append]; omega, ?_, by rw [hl]; exact hg.2.2, by rw [hl, List.length_append]; omega, ?_⟩, ?_, ?_⟩
  · rw [all_split]
    show r.1 ≠ 0
    have := hg.1
    omega
  · rw [hl]
    have e : r.all ++ t = r.front ++ (beB (sumOf r.front) 4 ++ t) := by unfold Rc.all; rw [List.append_assoc]
    rw [e, ← hf, List.drop_left' rfl, List.take_left' rfl, List.take_left' (by rw [beB_length])]
    exact getF4r (sumOf_range _).1 (sumOf_range _).2
  · unfold recR
    rw [hl, all_split]
    show (r.1, (r.2 ++ (beB (sumOf r.front) 4 ++ t)).take r.2.length) = r
    rw [List.take_left' rfl]
  · rw [hl, ← ha, List.drop_left' rfl]
theorem readL_all {r : Rc} (hg : r.good) (t : List Int) (at_ : Nat) : readL at_ (r.all ++ t) = (at_ + r.all.length, r) :: readL (at_ + r.all.length) t := by
  obtain ⟨h1, h2, h3⟩ := isR_all hg t
  rw [readL_yes h1, h2, h3, lenR_all hg, Rc.all_len]
/-- what is read was written so -/
theorem isR_back {b : List Int} (hb : Bytes b) (h : isR b) : (recR b).good ∧ (recR b).all = b.take (7 + lenR b) ∧ Bytes (recR b).2 ∧ (recR b).2.length = lenR b := by
  obtain ⟨h7, h2, hn, hl, hs⟩ := h
  have hk := hb.getD 2
  have h0 := hb.getD 0
  have h1 := hb.getD 1
  unfold Byte at hk h0 h1
  have hlen : ((b.drop 3).take (lenR b)).length = lenR b := by rw [List.length_take, List.length_drop]; omega
  have hLn := (lenR_lt hb).1
  have hfr : (recR b).front = b.take (3 + lenR b) := by
    unfold Rc.front recR
    dsimp only
    rw [hlen]
    have e : b = b.getD 0 0 :: b.getD 1 0 :: b.getD 2 0 :: b.drop 3 := by
      rw [List.getD_eq_getElem?_getD, List.getD_eq_getElem?_getD, List.getD_eq_getElem?_getD, List.getElem?_eq_getElem (show 0 < b.length by omega), List.getElem?_eq_getElem (show 1 < b.length by omega), List.getElem?_eq_getElem (show 2 < b.length by omega)]
      conv => lhs; rw [← List.drop_zero (l := b), List.drop_eq_getElem_cons (by omega), List.drop_eq_getElem_cons (by omega), List.drop_eq_getElem_cons (by omega)]
      rfl
    have e2 : ∀ n, b.take (3 + n) = b.getD 0 0 :: b.getD 1 0 :: b.getD 2 0 :: (b.drop 3).take n := fun n => by
      conv => lhs; rw [e]
      rw [show 3 + n = n + 1 + 1 + 1 by omega, List.take_succ_cons, List.take_succ_cons, List.take_succ_cons]
    rw [e2]
    congr 1
    · omega
    congr 1
    omega
  refine ⟨⟨by show 1 ≤ b.getD 2 0; omega, by show b.getD 2 0 ≤ 255; omega, by show ((b.drop 3).take (lenR b)).length ≤ 1024; omega⟩, ?_, (hb.drop 3).take _, hlen⟩
  unfold Rc.all
  rw [hfr, ← hs, beB_getF4r ((hb.drop _).take 4) (by rw [List.length_take, List.length_drop]; omega)]
  rw [show 7 + lenR b = 3 + lenR b + 4 by omega]
  generalize 3 + lenR b = m
  rw [List.take_add]
/-- bytes of records, one behind the other -/
def allB (l : List Rc) : List Int := l.flatMap Rc.all
theorem allB_cons (r : Rc) (l : List Rc) : allB (r :: l) = r.all ++ allB l := rfl
theorem allB_snoc (l : List Rc) (r : Rc) : allB (l ++ [r]) = allB l ++ r.all := by unfold allB; rw [List.flatMap_append]; simp
/-- where each ends -/
def endsR (at_ : Nat) : List Rc → List (Nat × Rc)
  | [] => []
  | r :: l => (at_ + r.all.length, r) :: endsR (at_ + r.all.length) l
theorem endsR_map (l : List Rc) : ∀ at_, (endsR at_ l).map (·.2) = l := by
  induction l with
  | nil => intro _; rfl
  | cons r l ih => intro at_; simp [endsR, ih]
theorem readL_allB {l : List Rc} (hg : ∀ r ∈ l, r.good) : ∀ (t : List Int) (at_ : Nat), readL at_ (allB l ++ t) = endsR at_ l ++ readL (at_ + (allB l).length) t := by
  induction l with
  | nil => intro t at_; rfl
  | cons r l ih =>
    intro t at_
    rw [allB_cons, List.append_assoc, readL_all (hg r (by simp)), ih (fun q hq => hg q (by simp [hq])), List.length_append]
    show _ = (at_ + r.all.length, r) :: endsR (at_ + r.all.length) l ++ _
    rw [Nat.add_assoc]
    rfl
/-- a record that is cut is none -/
theorem isR_cut {r : Rc} (hg : r.good) {n : Nat} (hn : n < r.all.length) : ¬ isR (r.all.take n) := by
  intro h
  obtain ⟨h7, _, _, hl, _⟩ := h
  have ha := Rc.all_len r
  rw [List.length_take] at h7 hl
  have e : lenR (r.all.take n) = r.2.length := by
    have := lenR_all hg []
    rw [List.append_nil] at this
    rw [← this]
    unfold lenR
    rw [List.getD_eq_getElem?_getD, List.getD_eq_getElem?_getD, List.getD_eq_getElem?_getD, List.getD_eq_getElem?_getD, List.getElem?_take_of_lt (by omega), List.getElem?_take_of_lt (by omega)]
  omega
/-- a record that is turned in its kind or body is none -/
theorem isR_turned {r : Rc} (hg : r.good) (hb : Bytes r.2) {n : Nat} (hn : n ≤ r.2.length) {y : Int} (hy : Byte y) (hne : r.all.getD (2 + n) 0 ≠ y) (t : List Int) : ¬ isR ((r.all.set (2 + n) y) ++ t) := by
  intro h
  obtain ⟨h7, hk, hln, hl, hs⟩ := h
  have ha := Rc.all_len r
  have hf := Rc.front_len r
  have e : lenR ((r.all.set (2 + n) y) ++ t) = r.2.length := by
    rw [← lenR_all hg t]
    unfold lenR
    rw [List.getD_eq_getElem?_getD, List.getD_eq_getElem?_getD, List.getD_eq_getElem?_getD, List.getD_eq_getElem?_getD]
    rw [List.getElem?_append_left (by rw [List.length_set]; omega), List.getElem?_append_left (by rw [List.length_set]; omega), List.getElem?_append_left (by omega), List.getElem?_append_left (by omega), List.getElem?_set_ne (by omega), List.getElem?_set_ne (by omega)]
  rw [e] at hs
  have e2 : r.all.set (2 + n) y ++ t = r.front.set (2 + n) y ++ (beB (sumOf r.front) 4 ++ t) := by
    unfold Rc.all
    rw [List.set_append_left _ _ (by omega), List.append_assoc]
  rw [e2, show 3 + r.2.length = (r.front.set (2 + n) y).length by rw [List.length_set]; omega, List.drop_left' rfl, List.take_left' rfl, List.take_left' (by rw [beB_length]), getF4r (sumOf_range _).1 (sumOf_range _).2] at hs
  refine sumOf_turned (Rc.front_bytes hg hb) (by omega : 2 + n < r.front.length) hy ?_ hs
  unfold Rc.all at hne
  rw [List.getD_eq_getElem?_getD, List.getElem?_append_left (by omega)] at hne
  rw [List.getD_eq_getElem?_getD]
  exact hne
end Go.Proofs.Ytobljkhidgbeoaa.M
namespace Go.Proofs.Ytobljkhidgbeoaa.Oct
open Go.RowKit Go.Proofs.YtobljkhidgbeoaaW.PrintWords Go.Proofs.Ytobljkhidgbeoaa.M
set_option linter.unusedVariables false
set_option linter.unusedSimpArgs false

end Go.Proofs.Ytobljkhidgbeoaa.Oct
namespace Go.Proofs.Ytobljkhidgbeoaa.Oct
open Go.RowKit Go.Proofs.YtobljkhidgbeoaaW.PrintWords Go.Proofs.Ytobljkhidgbeoaa.M
set_option linter.unusedVariables false
set_option linter.unusedSimpArgs false
/-- slices.Clone: in new memory -/
theorem clone_calls (w : World) (A : Option Addr) (c : Nat) (xs : List Int) (hr : Kd.C (Kd.int .u8) w A xs.length xs) (hlen : xs.length ≤ 140737488355328) :
    Calls Try.prog 46 #[.slice A xs.length c] w fun e w' => ∃ v, e = .returned v ∧ OB w' w.heap.size v xs ∧ Below w.heap.size w w' := by
  have HR := Aside0.mk hr
  clear hr
  cases A with
  | none =>
    obtain rfl : xs = [] := by
      rcases Nat.eq_zero_or_pos xs.length with h | h
      · exact List.eq_nil_of_length_eq_zero h
      · obtain ⟨ad, e, _⟩ := HR.out.2.2 h; cases e
    have hnil := Lib.run_eql_slice_nil (P := Try.prog) w 45 5 none 0 c 0 0 Try.underlying45
    go_enter Try.func46, Try.ntmps46
    go_wp2
    go_ret
    exact ⟨_, rfl, OB.nil _ _, Below.refl _ _⟩
  | some ad =>
    have hnil := Lib.run_eql_slice_nil (P := Try.prog) w 45 5 (some ad) xs.length c 0 0 Try.underlying45
    go_enter Try.func46, Try.ntmps46
    go_wp2_with ((with_reducible refine gate_dst (N := 7) rfl ?_); at_builtin; refine app_bytes (W0 := w) w.heap.size rfl (.tmp 5) (.tmp 6) rfl _ [] xs (some ad) xs.length c rfl rfl (own_lit w w.heap.size 5 .u8 [] (Nat.le_refl _) (by decide)) (Kd.C_below HR.out (below_alloc (Below.refl _ _) _)) (below_alloc (Below.refl _ _) _) (below_alloc (Below.refl _ _) _).size ?aL ?_; (case aL => simpa using hlen); intro v1 w1 ho hb _ _; rw [List.nil_append] at ho; have HO := Aside0.mk ho; have HB := Aside0.mk hb; clear ho hb)
    go_ret
    exact ⟨_, rfl, HO.out, HB.out⟩
end Go.Proofs.Ytobljkhidgbeoaa.Oct
namespace Go.Proofs.Ytobljkhidgbeoaa.Oct
open Go.RowKit Go.Proofs.YtobljkhidgbeoaaW.PrintWords Go.Proofs.Ytobljkhidgbeoaa.M
set_option linter.unusedVariables false
set_option linter.unusedSimpArgs false

theorem u32_or {c a : Int} (hc0 : 0 ≤ c) (hc : c < 65536) (ha0 : 0 ≤ a) (ha : a < 65536) : Go.bits .or .u32 (c * 65536) a = c * 65536 + a := by
  exact bits_join .u32 32 (by decide) (fun n h0 h1 => by rw [IntKind.wrap_u32]; omega) 16 _ _ (by omega) (by omega) (by omega) ha0 (by omega) (by omega)

set_option maxHeartbeats 400000 in
theorem sum_calls (w : World) (A : Option Addr) (c : Nat) (xs : List Int) (hr : Kd.C (Kd.int .u8) w A xs.length xs) (hx : Bytes xs) :
    Calls Try.prog 57 #[.slice A xs.length c] w fun e w' => e = .returned (.int .u32 (sumOf xs)) ∧ w' = w := by
  have hlen : xs.length ≤ 9223372036854775807 := hr.2.1
  have HR := Aside0.mk hr
  have HX := Aside0.mk hx
  clear hr hx
  go_enter Try.func57, Try.ntmps57
  go_wp2
  go_loop [3, 4, 9] (fun v3 v4 v9 => ∃ (k : Nat) (a c : Int), k ≤ xs.length ∧ v3 = .int .u32 a ∧ v4 = .int .u32 c ∧ v9 = .int .i64 k ∧ Aside0 ((a, c) = sumP (xs.take k))) (fun _ _ v => xs.length - (intOf v).toNat)
  case atStart => exact ⟨0, 1, 0, by omega, rfl, rfl, rfl, ⟨rfl⟩⟩
  case round =>
    obtain ⟨k, a, c, hk, rfl, rfl, rfl, HA⟩ := hrel
    have HG := Aside0.mk (sumP_range (xs.take k))
    obtain ⟨⟨ha0, ha1⟩, hc0, hc1⟩ : (0 ≤ a ∧ a < 65521) ∧ 0 ≤ c ∧ c < 65521 := by have := HG.out; rw [← HA.out] at this; exact this
    by_cases hlt : k < xs.length
    · obtain ⟨ad, e, hcell⟩ := C_byte HR.out hlt
      cases e
      have hb := HX.out.getD k
      have HS := Aside0.mk (sumP_take xs k hlt)
      obtain ⟨x, hx⟩ : ∃ x, x = xs.getD k 0 := ⟨_, rfl⟩
      rw [← hx] at hb hcell
      have HX' := Aside0.mk hx
      clear hx
      obtain ⟨hb0, hb1⟩ := hb
      go_wp2
      go_round
      case rel => 
        refine ⟨k + 1, stepS (a, c) x |>.1, stepS (a, c) x |>.2, by omega, ?_, ?_, by go_num, ⟨by rw [HS.out, ← HX'.out, ← HA.out]⟩⟩
        · unfold stepS; congr 1
        · unfold stepS; congr 1
      case measure => simp [intOf]; omega
    · have hk' : k = xs.length := by omega
      subst hk'
      go_wp2
      go_ret
      refine ⟨?_, rfl⟩
      show Ending.returned (.int .u32 _) = _
      rw [u32_or hc0 (by omega) ha0 (by omega)]
      unfold sumOf
      have := HA.out
      rw [List.take_length] at this
      rw [← this]

end Go.Proofs.Ytobljkhidgbeoaa.Oct
namespace Go.Proofs.Ytobljkhidgbeoaa.Oct
open Go.RowKit Go.Proofs.YtobljkhidgbeoaaW.PrintWords Go.Proofs.Ytobljkhidgbeoaa.M
set_option linter.unusedVariables false
set_option linter.unusedSimpArgs false

end Go.Proofs.Ytobljkhidgbeoaa.Oct
namespace Go.Proofs.Ytobljkhidgbeoaa.Oct
open Go.RowKit Go.Proofs.YtobljkhidgbeoaaW.PrintWords Go.Proofs.Ytobljkhidgbeoaa.M
set_option linter.unusedVariables false
set_option linter.unusedSimpArgs false

end Go.Proofs.Ytobljkhidgbeoaa.Oct
/- wal.Write. -/
namespace Go.Proofs.Ytobljkhidgbeoaa.Oct
open Go.RowKit Go.Proofs.YtobljkhidgbeoaaW.PrintWords Go.Proofs.Ytobljkhidgbeoaa.M
set_option linter.unusedVariables false
set_option linter.unusedSimpArgs false
theorem QB.C {W : World} {base n c : Nat} {A : Option Addr} {xs : List Int} (h : QB W base (.slice A n c) xs) : Kd.C (Kd.int .u8) W A xs.length xs := by
  obtain ⟨A', c', e, _, _, hr⟩ := h.form
  cases e
  exact hr
theorem QB.string {W : World} {base : Nat} {v : Value} {xs : List Int} (h : QB W base v xs) : (convert 45 9 v).run Try.prog W = .ok (.string (strOfNums xs)) W := by
  obtain ⟨A, c, rfl, _, _, hr⟩ := h.form
  exact Kd.C_string Try.underlying45 Try.underlying5 Try.underlying9 hr
theorem putM_four {v : Int} (h0 : 0 ≤ v) (h : v < 4294967296) : putM v 4 = (beB v 4, 0) := by
  unfold putM
  rw [if_neg (by omega), if_neg (by simp; omega)]
  rfl
def RetWW (w : World) (r : List Int × Int) (e : Ending) (w' : World) : Prop := ∃ v, e = .returned (.tuple #[v, .int .i64 r.2]) ∧ QB w' w.heap.size v r.1 ∧ Below w.heap.size w w'
theorem two_cells' {W : World} {b : Nat} {x y : Value} {t : TypeId} (h : W.heap[b]? = some (.cells #[x, y] t (0, 0))) :
    W.cell? ⟨b, 0, none⟩ = some x ∧ W.cell? ⟨b, 1, none⟩ = some y ∧ W.frozen? ⟨b, 0, none⟩ = false ∧ W.frozen? ⟨b, 1, none⟩ = false := by
  refine ⟨?_, ?_, ?_, ?_⟩ <;> simp [World.cell?, World.frozen?, h]
theorem lit_at (W : World) (base b : Nat) (xs : List Int) (h : W.heap.size = b) (hb : base ≤ b) (hm : xs.length ≤ 100) : QB (W.alloc (.cells (nums .u8 xs).toArray 5)) base (.slice (some ⟨b, 0, none⟩) xs.length xs.length) xs := by
  subst h
  exact QB.of_OB (own_lit W base 5 .u8 xs hb (by omega))
set_option maxHeartbeats 4000000 in
theorem wwrite_good (w : World) (r : Rc) (A : Option Addr) (c : Nat) (hr : Kd.C (Kd.int .u8) w A r.2.length r.2) (hb : Bytes r.2) (hg : r.good) :
    Calls Try.prog 36 #[.agg #[.int .i64 r.1, .slice A r.2.length c]] w (RetWW w (writeR r)) := by
  have HV := Aside0.mk (writeR_good hg)
  have HR := Aside0.mk hr
  have HFB := Aside0.mk (Rc.front_bytes hg hb)
  have HFL := Aside0.mk (Rc.front_len r)
  have HAL : Aside0 (r.all = r.front ++ beB (sumOf r.front) 4) := ⟨rfl⟩
  have HFE : Aside0 (r.front = [(r.2.length : Int) / 256, (r.2.length : Int) % 256, r.1] ++ r.2) := ⟨rfl⟩
  obtain ⟨fr, hfr⟩ : ∃ fr, fr = r.front := ⟨_, rfl⟩
  rw [← hfr] at HFB HFL HAL HFE
  have HFR := Aside0.mk hfr
  have hsr := sumOf_range fr
  have HPS := Aside0.mk (putM_four hsr.1 hsr.2)
  obtain ⟨sm, hsm⟩ : ∃ sm, sm = sumOf fr := ⟨_, rfl⟩
  rw [← hsm] at HPS HAL hsr
  have HSM := Aside0.mk hsm
  obtain ⟨hs0, hs1⟩ := hsr
  obtain ⟨k, d⟩ := r
  obtain ⟨hk1, hk2, hd⟩ := hg
  dsimp only at hk1 hk2 hd HR HFE HFL HAL HV HFR ⊢
  have hd' : (d.length : Int) ≤ 1024 := by omega
  have HD := Aside0.mk hd
  have HB0 : Aside0 (Below w.heap.size w ((w.alloc (.cells #[.int .i64 k, .slice A d.length c] 50)).alloc (.cells #[.int .u8 ((d.length : Int) / 256), .int .u8 ((d.length : Int) % 256), .int .u8 k] 5))) := ⟨below_alloc (below_alloc (Below.refl _ _) _) _⟩
  have HQ0 : Aside0 (QB ((w.alloc (.cells #[.int .i64 k, .slice A d.length c] 50)).alloc (.cells #[.int .u8 ((d.length : Int) / 256), .int .u8 ((d.length : Int) % 256), .int .u8 k] 5)) (w.heap.size + 1) (.slice (some ⟨w.heap.size + 1, 0, none⟩) 3 3) [(d.length : Int) / 256, (d.length : Int) % 256, k]) := ⟨lit_at (w.alloc _) (w.heap.size + 1) (w.heap.size + 1) [(d.length : Int) / 256, (d.length : Int) % 256, k] (by simp) (Nat.le_refl _) (by simp)⟩
  have HC0 := Aside0.mk (Kd.C_below HR.out HB0.out)
  have HS0 : Aside0 (w.heap.size + 1 ≤ ((w.alloc (.cells #[.int .i64 k, .slice A d.length c] 50)).alloc (.cells #[.int .u8 ((d.length : Int) / 256), .int .u8 ((d.length : Int) % 256), .int .u8 k] 5)).heap.size) := ⟨by simp only [World.size_alloc]; omega⟩
  have HL0 : Aside0 ([(d.length : Int) / 256, (d.length : Int) % 256, k].length + d.length ≤ 140737488355328) := ⟨by have := HD.out; simp only [List.length_cons, List.length_nil]; omega⟩
  clear hr hb hd hfr hsm
  go_enter Try.func36, Try.ntmps36
  go_wp2_with ((with_reducible refine gate_dst (N := 34) rfl ?_); at_builtin; refine app_q (w.heap.size + 1) rfl (.tmp 31) (.tmp 33) rfl (.slice (some ⟨w.heap.size + 1, 0, none⟩) 3 3) [(d.length : Int) / 256, (d.length : Int) % 256, k] d A d.length c rfl rfl rfl HQ0.out HC0.out HS0.out HL0.out ?_; intro v1 w1 ho1 hg1 _; rw [← HFE.out] at ho1; have HO1 := Aside0.mk ho1; have HS1 : Aside0 (w.heap.size + 1 ≤ w1.heap.size) := ⟨Nat.le_trans HS0.out hg1.size⟩; have HB1 : Aside0 (Below w.heap.size w w1) := ⟨HB0.out.grown hg1 HB0.out.size (fun k e => Nat.le_of_succ_le (HQ0.out.block e).1)⟩; clear ho1 hg1; obtain ⟨A1, c1, rfl, _⟩ := HO1.out.form)
  have HR1 := Aside0.mk HO1.out.C
  have HSZ1 : Aside0 (w.heap.size + 1 ≤ w1.heap.size) := HS1
  refine (sum_calls _ A1 c1 fr HR1.out HFB.out).mono ?_
  rw [← HSM.out]
  rintro e w2 ⟨rfl, rfl⟩
  go_wp2_with fail
  refine (put_calls _ sm 4 hs0 (by omega)).mono ?_
  rintro e w3 ⟨v3, rfl, ho3, hb3⟩
  rw [HPS.out] at ho3 ⊢
  obtain ⟨A3, c3, rfl, hr3⟩ := ho3.reads
  have HR3 := Aside0.mk hr3
  have HO13 := Aside0.mk (HO1.out.below hb3)
  have HB3 := Aside0.mk (HB1.out.trans (hb3.mono HB1.out.size))
  have HS3 : Aside0 (w.heap.size + 1 ≤ w3.heap.size) := ⟨Nat.le_trans HSZ1.out hb3.size⟩
  obtain ⟨z, hz⟩ : ∃ z, z = beB sm 4 := ⟨_, rfl⟩
  have HZL : Aside0 (z.length = 4) := ⟨by rw [hz]; exact beB_length _ _⟩
  rw [← hz] at HR3 HAL ⊢
  have HLL : Aside0 (fr.length + z.length ≤ 140737488355328) := ⟨by have h1 := HFL.out; have h2 := HZL.out; have h3 := HD.out; omega⟩
  clear ho3 hb3 hr3 hz
  go_wp2_with ((with_reducible refine gate_dst (N := 44) rfl ?_); at_builtin; refine app_q (w.heap.size + 1) rfl (.tmp 42) (.tmp 43) rfl (.slice A1 fr.length c1) fr z A3 z.length c3 rfl rfl rfl HO13.out HR3.out HS3.out HLL.out ?_; intro v7 w7 ho7 hg7 _; rw [← HAL.out] at ho7; have HO7 := Aside0.mk ho7; have HB7 := Aside0.mk (HB3.out.grown hg7 HB3.out.size (fun k hk => Nat.le_of_succ_le (HO13.out.block hk).1)); clear ho7 hg7)
  go_ret2
  rw [HV.out]
  exact ⟨_, rfl, HO7.out.lower (Nat.le_succ _), HB7.out⟩
set_option maxHeartbeats 2000000 in
theorem wwrite_calls (w : World) (r : Rc) (A : Option Addr) (c : Nat) (hr : Kd.C (Kd.int .u8) w A r.2.length r.2) (hb : Bytes r.2) :
    Calls Try.prog 36 #[.agg #[.int .i64 r.1, .slice A r.2.length c]] w (RetWW w (writeR r)) := by
  by_cases hg : r.good
  · exact wwrite_good w r A c hr hb hg
  · have hl : r.2.length ≤ 9223372036854775807 := hr.2.1
    have hc : r.1 < 1 ∨ (¬ r.1 < 1 ∧ 255 < r.1) ∨ (¬ r.1 < 1 ∧ ¬ 255 < r.1 ∧ 1024 < (r.2.length : Int)) := by unfold Rc.good at hg; omega
    rcases hc with h1 | ⟨h1, h2⟩ | ⟨h1, h2, h3⟩
    · have HV := Aside0.mk (writeR_kind (r := r) (.inl h1))
      clear hr hb hg
      go_enter Try.func36, Try.ntmps36
      go_wp2
      go_ret2
      rw [HV.out]
      exact ⟨_, rfl, QB.nil _ _, below_alloc (Below.refl _ _) _⟩
    · have HV := Aside0.mk (writeR_kind (r := r) (.inr h2))
      clear hr hb hg
      go_enter Try.func36, Try.ntmps36
      go_wp2
      go_ret2
      rw [HV.out]
      exact ⟨_, rfl, QB.nil _ _, below_alloc (Below.refl _ _) _⟩
    · have HV := Aside0.mk (writeR_long (r := r) (by omega) (by omega))
      clear hr hb hg
      go_enter Try.func36, Try.ntmps36
      go_wp2
      go_ret2
      rw [HV.out]
      exact ⟨_, rfl, QB.nil _ _, below_alloc (Below.refl _ _) _⟩
end Go.Proofs.Ytobljkhidgbeoaa.Oct
