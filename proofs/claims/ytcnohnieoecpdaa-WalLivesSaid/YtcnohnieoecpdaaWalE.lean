import Derived.Test.YtcnohnieoecpdaaWalD
import Derived.Test.YtcnohnieoecpdaaRead
/- How records are read as arguments; small guards of the laws. -/
namespace Go.Proofs.Ytcnohnieoecpdaa.Oct
open Go.RowKit Go.Proofs.YtcnohnieoecpdaaW.PrintWords Go.Proofs.Ytcnohnieoecpdaa.M Go.Proofs.Ytcnohnieoecpdaa.Rd
set_option linter.unusedVariables false
set_option linter.unusedSimpArgs false
section
variable {H : Type} {enc : TypeId × Value → H} {w : World} {base : Nat} {spare : Nat → Bool} {held : Bool}
theorem bytesRd : Rd enc Try.prog w base spare held 22 (Kd.slice 5 (Kd.int .u8)) (fun xs => (∀ x ∈ xs, (Lit.int .u8 x).wf = true) ∧ xs.length * Try.prog.bytesOf 5 ≤ reachBytes) :=
  Rd.slice Try.underlying22 (by kernel_rfl) (Rd.int Try.underlying5 (by kernel_rfl))
theorem bytes_len {xs : List Int} (h : xs.length * Try.prog.bytesOf 5 ≤ reachBytes) : xs.length ≤ 140737488355328 := by
  have h1 : Try.prog.bytesOf 5 = 1 := by kernel_rfl
  rw [h1] at h
  have := reachBytes_lt
  omega
abbrev recK : Kd Rc := Kd.pair (Kd.int .i64) (Kd.slice 5 (Kd.int .u8))
def RcG (o : Rc) : Prop := (Lit.int .i64 o.1).wf = true ∧ ((∀ x ∈ o.2, (Lit.int .u8 x).wf = true) ∧ o.2.length * Try.prog.bytesOf 5 ≤ reachBytes)
theorem recRd : Rd enc Try.prog w base spare held 24 recK RcG :=
  Rd.struct (ts := [3, 22]) Try.underlying24 (by rfl) (by kernel_rfl) (by kernel_rfl) (RdL.cons (Rd.int Try.underlying3 (by kernel_rfl)) (RdL.one bytesRd))
theorem recsRd : Rd enc Try.prog w base spare held 30 (Kd.slice 24 recK) (fun xs => (∀ x ∈ xs, RcG x) ∧ xs.length * Try.prog.bytesOf 24 ≤ reachBytes) :=
  Rd.slice Try.underlying30 (by kernel_rfl) recRd
end
/-- what is known of a record that is handed in -/
def RcOk (r : Rc) : Prop := (-9223372036854775808 ≤ r.1 ∧ r.1 ≤ 9223372036854775807) ∧ Bytes r.2 ∧ r.2.length ≤ 140737488355328
theorem RcG.ok {r : Rc} (h : RcG r) : RcOk r := ⟨i64b h.1, bytes_good h.2.1, bytes_len h.2.2⟩
theorem rec_arg {H : Type} {enc : TypeId × Value → H} {w : World} {base : Nat} {spare : Nat → Bool} {held : Bool} {cs : Array Value} {dd : DataW H} {ps : List MemPlace} (hw : ∀ n ∈ DataW.weights Try.prog 24 dd, n ≤ reachBytes)
    (h : DataW.Trod enc Try.prog w base spare held 24 (.agg cs) dd ps) : ∃ (f : Rc) (B : Option Addr) (c : Nat), cs = #[.int .i64 f.1, .slice B f.2.length c] ∧ Kd.C (Kd.int .u8) w B f.2.length f.2 ∧ (RcOk f ∧ f.2.length ≤ c) := by
  obtain ⟨fuel, hf⟩ := h
  obtain ⟨⟨k, d⟩, hK, hG⟩ := (recRd (w := w)).read fuel _ _ hf hw
  obtain ⟨c0, c1, e, h0, B, c, rfl, hl, hC⟩ := hK
  have h0' : c0 = [.int .i64 k] := h0
  subst h0'
  refine ⟨⟨k, d⟩, B, c, ?_, hC, RcG.ok hG, hl⟩
  have e' : cs.toList = [.int .i64 k] ++ [.slice B d.length c] := e
  cases cs
  simpa using e'
def longB (n : Nat) : Bool := (decide (200 < n) && decide (n ≤ 1024)) || decide (3000 < n)
theorem long_calls (w : World) (k : Int) (A : Option Addr) (n c : Nat) (hn : n ≤ 140737488355328) : Calls Try.prog 28 #[.agg #[.int .i64 k, .slice A n c]] w fun e w' => e = .returned (.bool (longB n)) ∧ Below w.heap.size w w' := by
  have HB0 : Aside0 (Below w.heap.size w (w.alloc (.cells #[.int .i64 k, .slice A n c] 24))) := ⟨below_alloc (Below.refl _ _) _⟩
  have hL : longB n = ((decide (200 < n) && decide (n ≤ 1024)) || decide (3000 < n)) := rfl
  obtain ⟨r, hr⟩ : ∃ r, r = longB n := ⟨_, rfl⟩
  rw [← hr] at hL ⊢
  have hc : n ≤ 200 ∨ (200 < n ∧ n ≤ 1024) ∨ (1024 < n ∧ n ≤ 3000) ∨ 3000 < n := by omega
  rcases hc with h | ⟨h, h2⟩ | ⟨h, h2⟩ | h
  · have HR : Aside0 (r = false) := ⟨by rw [hL]; simp; omega⟩
    have g0 : ¬ (200 : Int) < (n : Int) := by omega
    have g1 : ¬ (3000 : Int) < (n : Int) := by omega
    clear hL hr h
    go_enter Try.func28, Try.ntmps28
    go_wp2
    go_ret
    rw [HR.out]
    exact ⟨rfl, HB0.out⟩
  · have HR : Aside0 (r = true) := ⟨by rw [hL]; simp; omega⟩
    have g0 : (200 : Int) < (n : Int) := by omega
    have g1 : (n : Int) ≤ 1024 := by omega
    clear hL hr h h2
    go_enter Try.func28, Try.ntmps28
    go_wp2
    go_ret
    rw [HR.out]
    exact ⟨rfl, HB0.out⟩
  · have HR : Aside0 (r = false) := ⟨by rw [hL]; simp; omega⟩
    have g0 : (200 : Int) < (n : Int) := by omega
    have g1 : ¬ (n : Int) ≤ 1024 := by omega
    have g2 : ¬ (3000 : Int) < (n : Int) := by omega
    clear hL hr h h2
    go_enter Try.func28, Try.ntmps28
    go_wp2
    go_ret
    rw [HR.out]
    exact ⟨rfl, HB0.out⟩
  · have HR : Aside0 (r = true) := ⟨by rw [hL]; simp; omega⟩
    have g0 : (200 : Int) < (n : Int) := by omega
    have g1 : ¬ (n : Int) ≤ 1024 := by omega
    have g2 : (3000 : Int) < (n : Int) := by omega
    clear hL hr h
    go_enter Try.func28, Try.ntmps28
    go_wp2
    go_ret
    rw [HR.out]
    exact ⟨rfl, HB0.out⟩
/-- a log that is nil, or that no call made -/
def NoLog (w : World) (v : Value) : Prop := v = .pointer none ∨ ∃ b, v = .pointer (some ⟨b, 0, none⟩) ∧ w.heap[b]? = some (.cells #[.pointer none, .slice none 0 0] 55 (0, 0))
theorem NoLog.below {w w' : World} {v : Value} (h : NoLog w v) (hb : Below w.heap.size w w') : NoLog w' v := h.imp id (fun ⟨b, e, hh⟩ => ⟨b, e, blk_keep hh hb⟩)
theorem made_no (w : World) (v : Value) (h : NoLog w v) : Calls Try.prog 49 #[v] w fun e w' => e = .returned (.bool false) ∧ w' = w := by
  rcases h with rfl | ⟨b, rfl, hb⟩
  · go_enter Try.func49, Try.ntmps49
    go_wp2
    go_ret
    exact ⟨rfl, rfl⟩
  · obtain ⟨c0, c1, f0, f1⟩ := two_cells' hb
    clear hb
    go_enter Try.func49, Try.ntmps49
    go_wp2
    go_ret
    exact ⟨rfl, rfl⟩
theorem add_no (w : World) (v : Value) (k : Int) (A : Option Addr) (n c : Nat) (f : Bool) (h : NoLog w v) : Calls Try.prog 25 #[v, .agg #[.int .i64 k, .slice A n c], .bool f] w fun e w' => e = .returned (.int .i64 6) ∧ Below w.heap.size w w' := by
  have HB0 : Aside0 (Below w.heap.size w (w.alloc (.cells #[.int .i64 k, .slice A n c] 24))) := ⟨below_alloc (Below.refl _ _) _⟩
  have HN := Aside0.mk (h.below HB0.out)
  clear h
  go_enter Try.func25, Try.ntmps25
  go_wp2_with (go_at_call 49; refine (made_no _ _ HN.out).mono ?_; rintro e w' ⟨rfl, hw'⟩; have hw' := hw'.symm; subst hw')
  go_ret
  exact ⟨rfl, HB0.out⟩
theorem swap_no (w : World) (v l : Value) (h : NoLog w v) : Calls Try.prog 29 #[v, l] w fun e w' => e = .returned (.int .i64 6) ∧ w' = w := by
  have HN := Aside0.mk h
  clear h
  go_enter Try.func29, Try.ntmps29
  go_wp2
  go_step3
  go_wp2_with (go_at_call 49; refine (made_no _ _ HN.out).mono ?_; rintro e w' ⟨rfl, hw'⟩; have hw' := hw'.symm; subst hw')
  simp only [Exit.noGoto]
  go_ret
  exact ⟨rfl, rfl⟩
theorem records_no (w : World) (v : Value) (h : NoLog w v) : Calls Try.prog 26 #[v] w fun e w' => e = .returned (.slice none 0 0) ∧ w' = w := by
  have HN := Aside0.mk h
  clear h
  go_enter Try.func26, Try.ntmps26
  go_wp2_with (go_at_call 49; refine (made_no _ _ HN.out).mono ?_; rintro e w' ⟨rfl, hw'⟩; have hw' := hw'.symm; subst hw')
  go_ret
  exact ⟨rfl, rfl⟩
theorem room_no (w : World) (v : Value) (h : NoLog w v) : Calls Try.prog 30 #[v] w fun e w' => e = .returned (.int .i64 0) ∧ w' = w := by
  have HN := Aside0.mk h
  clear h
  go_enter Try.func30, Try.ntmps30
  go_wp2_with (go_at_call 49; refine (made_no _ _ HN.out).mono ?_; rintro e w' ⟨rfl, hw'⟩; have hw' := hw'.symm; subst hw')
  go_ret
  exact ⟨rfl, rfl⟩
theorem open_zero (w : World) (b : Nat) (x y z : Value) (h : w.heap[b]? = some (.cells #[.int .i64 0, y, z] 57 (0, 0))) : Calls Try.prog 21 #[.pointer (some ⟨b, 0, none⟩)] w fun e w' => e = .returned (.tuple #[.pointer none, .slice none 0 0, .int .i64 6]) ∧ w' = w := by
  have c0 : w.cell? ⟨b, 0, none⟩ = some (.int .i64 0) := by simp [World.cell?, h]
  clear h
  go_enter Try.func21, Try.ntmps21
  go_wp2
  refine bodyPost_ret (v := .tuple #[.pointer none, .slice none 0 0, .int .i64 6]) (by simp [results, Try.results21, go_sem]) rfl ?_
  exact ⟨rfl, rfl⟩
end Go.Proofs.Ytcnohnieoecpdaa.Oct
