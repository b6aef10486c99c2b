import Derived.Test.YtpkclecgaheplaaRTmFb
import Derived.Test.YtpkclecgaheplaaRRead
import Derived.Test.YtpkclecgaheplaaRPathD
import Derived.Test.YtpkclecgaheplaaRCall
import Derived.Deep.DrawnRows
namespace Go.Proofs.YtpkclecgaheplaaR.Oct
open Go.RowKit Go.Proofs.YtpkclecgaheplaaRW.PrintWords Go.Proofs.YtpkclecgaheplaaR.M
set_option linter.unusedVariables false
set_option linter.unusedSimpArgs false
theorem C_take {w : World} {A : Option Addr} {xs : List Int} (h : (Kd.int .u8).C w A xs.length xs) (n : Nat) (hn : n ≤ xs.length) : (Kd.int .u8).C w A n (xs.take n) := by
  refine ⟨(by simp [hn]), Nat.le_trans hn h.2.1, fun h0 => ?_⟩
  obtain ⟨ad, e, hc⟩ := h.2.2 (by omega)
  refine ⟨ad, e, fun j y hy => ?_⟩
  rw [List.getElem?_take] at hy
  split at hy
  · exact hc j y hy
  · cases hy
/-- the rest of a row that is read -/
theorem C_drop {W : World} {ad : Addr} {xs : List Int} (h : Kd.C (Kd.int .u8) W (some ad) xs.length xs) {k : Nat} (hk : k ≤ xs.length) : Kd.C (Kd.int .u8) W (some (ad.add k)) (xs.length - k) (xs.drop k) := by
  refine Kd.C_of_reads (d := (0 : Int)) ⟨by simp, by have := h.2.1; omega, fun hn => ⟨_, rfl, fun j hj => ?_⟩⟩
  obtain ⟨ad', e, hc⟩ := C_byte h (k := k + j) (by omega)
  injection e with e
  subst e
  rw [Rd.addr_add_add]
  rw [hc]
  simp [List.getD_eq_getElem?_getD, List.getElem?_drop]
/-- a piece of a row that is read -/
theorem C_mid {W : World} {ad : Addr} {xs : List Int} (h : Kd.C (Kd.int .u8) W (some ad) xs.length xs) {k n : Nat} (hk : k + n ≤ xs.length) : Kd.C (Kd.int .u8) W (some (ad.add k)) ((xs.drop k).take n).length ((xs.drop k).take n) := by
  have h1 := C_drop h (k := k) (by omega)
  rw [← List.length_drop] at h1
  have h2 := C_take h1 n (by rw [List.length_drop]; omega)
  have e : ((xs.drop k).take n).length = n := by rw [List.length_take, List.length_drop]; omega
  rw [e]
  exact h2
theorem number_at (w : World) (A : Option Addr) (n c : Nat) (xs : List Int) (hn : n = xs.length) (hr : Kd.C (Kd.int .u8) w A xs.length xs) (hx : Bytes xs) (h1 : 1 ≤ n) (h2 : n ≤ 4) (v : Int) (hv : v = getF xs) :
    Calls Try.prog 24 #[.slice A n c] w fun e w' => e = .returned (.int .i64 v) ∧ w' = w := by
  subst hn
  have HG := Aside0.mk (getM_good (xs := xs) h1 (by omega))
  have hb := getF_small hx (k := xs.length) (Nat.le_refl _) (by omega)
  rw [List.take_length, ← hv] at hb
  obtain ⟨hb0, hb1⟩ := hb
  have HR := Aside0.mk hr
  have HX := Aside0.mk hx
  have HV := Aside0.mk hv
  have h3 : v < 9223372036854775808 := by omega
  clear hr hx hv h1 h2 hb1
  go_enter Try.func24, Try.ntmps24
  go_wp2_with fail
  refine (get_calls _ A c xs HR.out HX.out).mono ?_
  rw [HG.out, ← HV.out]
  rintro e w1 ⟨rfl, rfl⟩
  go_wp2_with fail
  go_ret
  exact ⟨rfl, rfl⟩
theorem sum_at (w : World) (A : Option Addr) (n c : Nat) (xs : List Int) (hn : n = xs.length) (hr : Kd.C (Kd.int .u8) w A xs.length xs) (hx : Bytes xs) (v : Int) (hv : v = sumOf xs) :
    Calls Try.prog 21 #[.slice A n c] w fun e w' => e = .returned (.int .u32 v) ∧ w' = w := by
  subst hn hv
  exact sum_calls w A c xs hr hx
theorem clone_at (w : World) (A : Option Addr) (n c : Nat) (xs : List Int) (hn : n = xs.length) (hr : Kd.C (Kd.int .u8) w A xs.length xs) (hlen : xs.length ≤ 140737488355328) :
    Calls Try.prog 22 #[.slice A n c] w fun e w' => ∃ A2 c2, e = .returned (.slice A2 xs.length c2) ∧ OB w' w.heap.size (.slice A2 xs.length c2) xs ∧ Below w.heap.size w w' := by
  subst hn
  refine (clone_calls w A c xs hr hlen).mono ?_
  rintro e w' ⟨v, rfl, ho, hb⟩
  obtain ⟨A2, c2, rfl, _⟩ := ho.reads
  exact ⟨A2, c2, rfl, ho, hb⟩
def RetFR (w : World) (r : FR × Int) (e : Ending) (w' : World) : Prop := ∃ A c, e = .returned (.tuple #[.agg #[.int .u32 r.1.s, .int .i64 r.1.q, .int .i64 r.1.k, .slice A r.1.d.length c], .int .i64 r.2]) ∧ OB w' w.heap.size (.slice A r.1.d.length c) r.1.d ∧ Below w.heap.size w w'
theorem retfr_zero {w w' : World} {b : List Int} {n : Int} (h : readF b = (FR.zero, n)) (hb : Below w.heap.size w w') : RetFR w (readF b) (.returned (.tuple #[.agg #[.int .u32 0, .int .i64 0, .int .i64 0, .slice none 0 0], .int .i64 n])) w' := by
  rw [h]
  exact ⟨none, 0, rfl, OB.nil _ _, hb⟩
set_option maxHeartbeats 1000000 in
theorem fread_tiny (w : World) (A : Option Addr) (c : Nat) (b : List Int) (hl : b.length < 14) : Calls Try.prog 10 #[.slice A b.length c] w (RetFR w (readF b)) := by
  have HV : Aside0 (readF b = (FR.zero, 11)) := ⟨by unfold readF; rw [if_pos hl]⟩
  have h1 : (b.length : Int) < 14 := by omega
  clear hl
  go_enter Try.func10, Try.ntmps10
  go_wp2_with fail
  refine bodyPost_ret (v := .tuple #[.agg #[.int .u32 0, .int .i64 0, .int .i64 0, .slice none 0 0], .int .i64 11]) (by simp [results, Try.results10, go_sem]) rfl ?_
  refine retfr_zero HV.out ?_
  exact below_alloc (Below.refl _ _) _
set_option maxHeartbeats 1000000 in
theorem fread_short (w : World) (A : Option Addr) (c : Nat) (b : List Int) (hr : Kd.C (Kd.int .u8) w A b.length b) (hx : Bytes b) (hc : b.length ≤ c) (hl : 14 ≤ b.length) (h2 : b.length < 14 + lenAt b ∨ 14 + lenAt b < b.length) : Calls Try.prog 10 #[.slice A b.length c] w (RetFR w (readF b)) := by
  obtain ⟨ad, rfl, _⟩ := C_byte hr (k := 0) (by omega)
  have HN := Aside0.mk (lenAt_get hx hl).1
  have hn2 := (lenAt_get hx hl).2
  have HR8 := Aside0.mk (C_mid hr (k := 8) (n := 2) (by omega))
  have HN2 : Aside0 (2 = ((b.drop 8).take 2).length) := ⟨by rw [List.length_take, List.length_drop]; omega⟩
  have HR := Aside0.mk hr
  have HX := Aside0.mk hx
  have hbl : b.length ≤ 9223372036854775807 := hr.2.1
  have h14 : (14 : Int) ≤ (b.length : Int) := by omega
  have h14c : (14 : Int) ≤ (c : Int) := by omega
  have hbc : (b.length : Int) ≤ (c : Int) := by omega
  rcases h2 with h2 | h2
  · have HV := Aside0.mk (readF_short hl h2)
    obtain ⟨n, hn⟩ : ∃ n, n = lenAt b := ⟨_, rfl⟩
    rw [← hn] at hn2 HN h2
    have g1 : (b.length : Int) < 10 + (n : Int) + 4 := by omega
    clear hr hx hl h2 hn
    go_enter Try.func10, Try.ntmps10
    go_wp2_with fail
    refine (number_at _ (some (ad.add 8)) 2 (c - 8) ((b.drop 8).take 2) HN2.out (Kd.C_below HR8.out (below_alloc (Below.refl _ _) _)) (HX.out.drop 8 |>.take 2) (by omega) (by omega) (n : Int) HN.out).mono ?_
    rintro e w1 ⟨rfl, rfl⟩
    go_wp2_with fail
    refine bodyPost_ret (v := .tuple #[.agg #[.int .u32 0, .int .i64 0, .int .i64 0, .slice none 0 0], .int .i64 11]) (by simp [results, Try.results10, go_sem]) rfl ?_
    exact retfr_zero HV.out (below_alloc (Below.refl _ _) _)
  · have HV := Aside0.mk (readF_long hl h2)
    obtain ⟨n, hn⟩ : ∃ n, n = lenAt b := ⟨_, rfl⟩
    rw [← hn] at hn2 HN h2
    have g1 : 10 + (n : Int) + 4 < (b.length : Int) := by omega
    have g2 : ¬ (b.length : Int) < 10 + (n : Int) + 4 := by omega
    clear hr hx hl h2 hn
    go_enter Try.func10, Try.ntmps10
    go_wp2_with fail
    refine (number_at _ (some (ad.add 8)) 2 (c - 8) ((b.drop 8).take 2) HN2.out (Kd.C_below HR8.out (below_alloc (Below.refl _ _) _)) (HX.out.drop 8 |>.take 2) (by omega) (by omega) (n : Int) HN.out).mono ?_
    rintro e w1 ⟨rfl, rfl⟩
    go_wp2_with fail
    refine bodyPost_ret (v := .tuple #[.agg #[.int .u32 0, .int .i64 0, .int .i64 0, .slice none 0 0], .int .i64 2]) (by simp [results, Try.results10, go_sem]) rfl ?_
    exact retfr_zero HV.out (below_alloc (Below.refl _ _) _)
end Go.Proofs.YtpkclecgaheplaaR.Oct
