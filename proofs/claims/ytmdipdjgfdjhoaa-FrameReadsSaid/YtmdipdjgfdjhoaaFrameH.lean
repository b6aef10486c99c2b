import Derived.Test.YtmdipdjgfdjhoaaFrameG
namespace Go.Proofs.Ytmdipdjgfdjhoaa.Oct
open Go.RowKit Go.Proofs.YtmdipdjgfdjhoaaW.PrintWords Go.Proofs.Ytmdipdjgfdjhoaa.M Go.Proofs.Ytmdipdjgfdjhoaa.Rd
set_option linter.unusedVariables false
set_option linter.unusedSimpArgs false
/- How the rows' data are read; small laws for the rows' walks. -/
section
variable {H : Type} {enc : TypeId × Value → H} {w : World} {base : Nat} {spare : Nat → Bool} {held : Bool}
theorem bytesRd : Rd enc Try.prog w base spare held 23 (Kd.slice 5 (Kd.int .u8)) (fun xs => (∀ x ∈ xs, (Lit.int .u8 x).wf = true) ∧ xs.length * Try.prog.bytesOf 5 ≤ reachBytes) :=
  Rd.slice Try.underlying23 (by kernel_rfl) (Rd.int Try.underlying5 (by kernel_rfl))
theorem bytes_len {xs : List Int} (h : xs.length * Try.prog.bytesOf 5 ≤ reachBytes) : xs.length ≤ 140737488355328 := by
  have h1 : Try.prog.bytesOf 5 = 1 := by kernel_rfl
  rw [h1] at h
  have := reachBytes_lt
  omega
abbrev FrT := Int × Int × Int × List Int
abbrev frameK : Kd FrT := Kd.pair (Kd.int .u32) (Kd.pair (Kd.int .i64) (Kd.pair (Kd.int .i64) (Kd.slice 5 (Kd.int .u8))))
def FrG (o : FrT) : Prop := (Lit.int .u32 o.1).wf = true ∧ (Lit.int .i64 o.2.1).wf = true ∧ (Lit.int .i64 o.2.2.1).wf = true ∧ ((∀ x ∈ o.2.2.2, (Lit.int .u8 x).wf = true) ∧ o.2.2.2.length * Try.prog.bytesOf 5 ≤ reachBytes)
theorem frameRd : Rd enc Try.prog w base spare held 25 frameK FrG :=
  Rd.struct (ts := [22, 3, 3, 23]) Try.underlying25 (by rfl) (by kernel_rfl) (by kernel_rfl) (RdL.cons (Rd.int Try.underlying22 (by kernel_rfl)) (RdL.cons (Rd.int Try.underlying3 (by kernel_rfl)) (RdL.cons (Rd.int Try.underlying3 (by kernel_rfl)) (RdL.one bytesRd))))
end
theorem u32b {n : Int} (h : (Lit.int .u32 n).wf = true) : 0 ≤ n ∧ n < 4294967296 := by
  have := Go.bounds_u32 h
  omega
theorem u8b {n : Int} (h : (Lit.int .u8 n).wf = true) : Byte n := byte_wf h
theorem frame_arg {H : Type} {enc : TypeId × Value → H} {w : World} {base : Nat} {spare : Nat → Bool} {held : Bool} {cs : Array Value} {dd : DataW H} {ps : List MemPlace} (hw : ∀ n ∈ DataW.weights Try.prog 25 dd, n ≤ reachBytes)
    (h : DataW.Trod enc Try.prog w base spare held 25 (.agg cs) dd ps) : ∃ (f : FR) (B : Option Addr) (c : Nat), cs = #[.int .u32 f.s, .int .i64 f.q, .int .i64 f.k, .slice B f.d.length c] ∧ Kd.C (Kd.int .u8) w B f.d.length f.d ∧ (f.ok ∧ f.d.length ≤ c ∧ f.d.length ≤ 140737488355328) := by
  obtain ⟨fuel, hf⟩ := h
  obtain ⟨⟨s, q, k, d⟩, hK, hG⟩ := (frameRd (w := w)).read fuel _ _ hf hw
  obtain ⟨c0, c1, e, h0, h1⟩ := hK
  obtain ⟨c2, c3, rfl, h2, h3⟩ := h1
  obtain ⟨c4, c5, rfl, h4, B, c, rfl, hl, hC⟩ := h3
  have h0' : c0 = [.int .u32 s] := h0
  have h2' : c2 = [.int .i64 q] := h2
  have h4' : c4 = [.int .i64 k] := h4
  subst h0' h2' h4'
  refine ⟨⟨s, q, k, d⟩, B, c, ?_, hC, ⟨u32b hG.1, i64b hG.2.1, i64b hG.2.2.1, bytes_good hG.2.2.2.1⟩, hl, bytes_len hG.2.2.2.2⟩
  have e' : cs.toList = [.int .u32 s] ++ ([.int .i64 q] ++ ([.int .i64 k] ++ [.slice B d.length c])) := e
  cases cs
  simpa using e'
theorem fread_at (w : World) (A : Option Addr) (n c : Nat) (b : List Int) (hn : n = b.length) (hr : Kd.C (Kd.int .u8) w A b.length b) (hx : Bytes b) (hc : b.length ≤ c) : Calls Try.prog 14 #[.slice A n c] w (RetFR w (readF b)) := by
  subst hn
  exact fread_calls w A c b hr hx hc
/-- what a mark's world says of a frame that is boxed there -/
theorem box_frame (w : World) (f : FR) (A : Option Addr) (c : Nat) : ∃ w0, w0 = w.alloc (frC f A c) ∧ Below w.heap.size w w0 ∧ w0.heap[w.heap.size]? = some (.cells #[.int .u32 f.s, .int .i64 f.q, .int .i64 f.k, .slice A f.d.length c] 25 (0, 0)) :=
  ⟨_, rfl, below_alloc (Below.refl _ _) _, heap_alloc_new w _⟩
theorem QB.set {W : World} {base g off n c : Nat} {xs : List Int} (h : QB W base (.slice (some ⟨g, off, none⟩) n c) xs) {j : Nat} (hj : j < xs.length) (y : Int) : W.cell? ⟨g, off + j, none⟩ = some (.int .u8 (xs.getD j 0)) ∧ W.frozen? ⟨g, off + j, none⟩ = false ∧ QB (W.setCell ⟨g, off + j, none⟩ (.int .u8 y)) base (.slice (some ⟨g, off, none⟩) n c) (xs.set j y) := by
  have hcell : W.cell? ⟨g, off + j, none⟩ = some (.int .u8 (xs.getD j 0)) := by
    obtain ⟨A, c', e, _, _, hr⟩ := h.form
    injection e with e1 e2 e3
    subst e1
    obtain ⟨ad, e, hc⟩ := C_byte hr hj
    injection e with e
    rw [← e, Addr.add_lit] at hc
    exact hc
  rcases h.2 with ⟨e, _⟩ | ⟨g', off', cap, cur, e, hb, hh, hc, hm, h6, h7⟩
  · cases e
  · obtain ⟨⟨rfl, rfl⟩, rfl, rfl⟩ : (g = g' ∧ off = off') ∧ n = xs.length ∧ c = cap := by simpa using e
    refine ⟨hcell, by simp [World.frozen?, hh], ?_⟩
    unfold QB
    rw [List.length_set]
    refine ⟨by simp [nums], .inr ⟨g, off, c, _, rfl, hb, heap_set _ hh, hc, hm, by simpa using h6, ?_⟩⟩
    have e1 : (cur.setIfInBounds (off + j) (.int .u8 y)).toList = cur.toList.set (off + j) (.int .u8 y) := by simp
    have e2 : nums .u8 (xs.set j y) = (nums .u8 xs).set j (.int .u8 y) := by simp [nums, List.map_set]
    rw [e1, e2, ← h7, List.drop_set, if_neg (by omega), Nat.add_sub_cancel_left, List.take_set]
theorem getD_lt_ne {xs : List Int} (hb : Bytes xs) {y : Int} (hy : Byte y) (h0 : y ≠ 0) (n : Nat) : ∃ z, Go.bits .xor .u8 (xs.getD n 0) y = z ∧ Byte z ∧ xs.getD n 0 ≠ z := by
  obtain ⟨h1, h2⟩ := hb.getD n
  obtain ⟨h3, h4⟩ := hy
  refine ⟨_, u8_xor h1 h2 h3 h4, ⟨by omega, ?_⟩, fun e => ?_⟩
  · have := xor_byte (a := (xs.getD n 0).toNat) (b := y.toNat) (by omega) (by omega)
    omega
  · have := xor_ne (a := (xs.getD n 0).toNat) (b := y.toNat) (by omega)
    omega
end Go.Proofs.Ytmdipdjgfdjhoaa.Oct
