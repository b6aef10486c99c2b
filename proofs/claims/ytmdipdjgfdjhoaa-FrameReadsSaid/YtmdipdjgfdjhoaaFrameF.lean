import Derived.Test.YtmdipdjgfdjhoaaFrameD
import Derived.Test.YtmdipdjgfdjhoaaFrameE
import Derived.Test.YtmdipdjgfdjhoaaFrameN
namespace Go.Proofs.Ytmdipdjgfdjhoaa.Oct
open Go.RowKit Go.Proofs.YtmdipdjgfdjhoaaW.PrintWords Go.Proofs.Ytmdipdjgfdjhoaa.M
set_option linter.unusedVariables false
set_option linter.unusedSimpArgs false
theorem fread_calls (w : World) (A : Option Addr) (c : Nat) (b : List Int) (hr : Kd.C (Kd.int .u8) w A b.length b) (hx : Bytes b) (hc : b.length ≤ c) : Calls Try.prog 14 #[.slice A b.length c] w (RetFR w (readF b)) := by
  by_cases h1 : b.length < 14
  · exact fread_tiny w A c b h1
  · by_cases h2 : b.length = 14 + lenAt b
    · by_cases hs : getF (b.drop (10 + lenAt b)) = sumOf (b.take (10 + lenAt b))
      · exact fread_okay w A c b hr hx hc (by omega) h2 hs
      · exact fread_unsum w A c b hr hx hc (by omega) h2 hs
    · exact fread_short w A c b hr hx hc (by omega) (by omega)
theorem str_toList (xs : List Int) : (strOfNums xs).toList = xs.map fun n => UInt8.ofNat n.toNat := by
  rw [ByteArray.toList_eq]
  rfl
theorem str_back {xs : List Int} (h : Bytes xs) : (xs.map fun n => UInt8.ofNat n.toNat).map (fun b => (b.toNat : Int)) = xs := by
  rw [List.map_map]
  conv => rhs; rw [← List.map_id xs]
  apply List.map_congr_left
  intro y hy
  have := h y hy
  unfold Byte at this
  have h2 : y.toNat < 256 := by omega
  simp [Nat.mod_eq_of_lt h2]
  omega
theorem str_inj {xs ys : List Int} (hx : Bytes xs) (hy : Bytes ys) (h : (strOfNums xs).toList = (strOfNums ys).toList) : xs = ys := by
  rw [str_toList, str_toList] at h
  have := congrArg (List.map fun b : UInt8 => (b.toNat : Int)) h
  rwa [str_back hx, str_back hy] at this
theorem C_str {w : World} {A : Option Addr} {n c : Nat} {xs : List Int} (h : (Kd.int .u8).C w A n xs) : (convert 23 9 (.slice A n c)).run Try.prog w = .ok (.string (strOfNums xs)) w :=
  Kd.C_string Try.underlying23 Try.underlying5 Try.underlying9 h
set_option maxHeartbeats 2000000 in
theorem same_calls (w : World) (f g : FR) (A B : Option Addr) (c d : Nat) (hf : Kd.C (Kd.int .u8) w A f.d.length f.d) (hg : Kd.C (Kd.int .u8) w B g.d.length g.d) (bf : Bytes f.d) (bg : Bytes g.d) :
    Calls Try.prog 13 #[.agg #[.int .u32 f.s, .int .i64 f.q, .int .i64 f.k, .slice A f.d.length c], .agg #[.int .u32 g.s, .int .i64 g.q, .int .i64 g.k, .slice B g.d.length d]] w fun e w' => e = .returned (.bool (same f g)) ∧ Below w.heap.size w w' := by
  have HI : Aside0 ((strOfNums f.d).toList = (strOfNums g.d).toList → f.d = g.d) := ⟨str_inj bf bg⟩
  have HD : Aside0 (f.d = g.d → (strOfNums f.d).toList = (strOfNums g.d).toList) := ⟨fun h => by rw [h]⟩
  have HF := Aside0.mk hf
  have HG := Aside0.mk hg
  have HSM : Aside0 (same f g = (f.s == g.s && f.q == g.q && f.k == g.k && f.d == g.d)) := ⟨rfl⟩
  obtain ⟨r, hr⟩ : ∃ r, r = same f g := ⟨_, rfl⟩
  rw [← hr] at HSM ⊢
  clear hf hg bf bg hr
  obtain ⟨fs, fq, fk, fd⟩ := f
  obtain ⟨gs, gq, gk, gd⟩ := g
  dsimp only at HF HG HSM HI HD
  have hbf : fd.length ≤ 9223372036854775807 := HF.out.2.1
  have hbg : gd.length ≤ 9223372036854775807 := HG.out.2.1
  obtain ⟨S1, hS1⟩ : ∃ S1, S1 = strOfNums fd := ⟨_, rfl⟩
  obtain ⟨S2, hS2⟩ : ∃ S2, S2 = strOfNums gd := ⟨_, rfl⟩
  rw [← hS1, ← hS2] at HI HD
  have hb2 : Below w.heap.size w ((w.alloc (.cells #[.int .u32 fs, .int .i64 fq, .int .i64 fk, .slice A fd.length c] 25)).alloc (.cells #[.int .u32 gs, .int .i64 gq, .int .i64 gk, .slice B gd.length d] 25)) := below_alloc (below_alloc (Below.refl _ _) _) _
  have c1 := C_str (c := c) (Kd.C_below HF.out hb2)
  have c2 := C_str (c := d) (Kd.C_below HG.out hb2)
  rw [← hS1] at c1
  rw [← hS2] at c2
  have HB := Aside0.mk hb2
  clear hS1 hS2 hb2
  by_cases h1 : fs = gs
  · have b1 : (fs == gs) = true := by simpa using h1
    by_cases h2 : fq = gq
    · have b2 : (fq == gq) = true := by simpa using h2
      by_cases h3 : fk = gk
      · have b3 : (fk == gk) = true := by simpa using h3
        by_cases h4 : fd = gd
        · have HR : Aside0 (r = true) := ⟨by rw [HSM.out, b1, b2, b3]; simpa using h4⟩
          have b4 : (S1.toList == S2.toList) = true := by simpa using HD.out h4
          clear h1 h2 h3 h4
          go_enter Try.func13, Try.ntmps13
          go_wp2_with fail
          go_ret
          rw [HR.out]
          exact ⟨rfl, HB.out⟩
        · have HR : Aside0 (r = false) := ⟨by rw [HSM.out, b1, b2, b3]; simpa using h4⟩
          have b4 : (S1.toList == S2.toList) = false := beq_eq_false_iff_ne.2 (fun e => h4 (HI.out e))
          clear h1 h2 h3 h4
          go_enter Try.func13, Try.ntmps13
          go_wp2_with fail
          go_ret
          rw [HR.out]
          exact ⟨rfl, HB.out⟩
      · have b3 : (fk == gk) = false := beq_eq_false_iff_ne.2 h3
        have HR : Aside0 (r = false) := ⟨by rw [HSM.out, b1, b2, b3]; rfl⟩
        clear h1 h2 h3
        go_enter Try.func13, Try.ntmps13
        go_wp2_with fail
        go_ret
        rw [HR.out]
        exact ⟨rfl, HB.out⟩
    · have b2 : (fq == gq) = false := beq_eq_false_iff_ne.2 h2
      have HR : Aside0 (r = false) := ⟨by rw [HSM.out, b1, b2]; rfl⟩
      clear h1 h2
      go_enter Try.func13, Try.ntmps13
      go_wp2_with fail
      go_ret
      rw [HR.out]
      exact ⟨rfl, HB.out⟩
  · have b1 : (fs == gs) = false := beq_eq_false_iff_ne.2 h1
    have HR : Aside0 (r = false) := ⟨by rw [HSM.out, b1]; rfl⟩
    clear h1
    go_enter Try.func13, Try.ntmps13
    go_wp2_with fail
    go_ret
    rw [HR.out]
    exact ⟨rfl, HB.out⟩
theorem lit_reads {W : World} (xs : List Int) (h : xs.length ≤ 100) : Kd.C (Kd.int .u8) (W.alloc (.cells (nums .u8 xs).toArray 5)) (some ⟨W.heap.size, 0, none⟩) xs.length xs := block_reads _ (heap_alloc_new W _) (by omega)
end Go.Proofs.Ytmdipdjgfdjhoaa.Oct
