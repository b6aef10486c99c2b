import Derived.OpenShut
import Derived.Test.YtdagpeencafheaaOctD
namespace Go.Proofs.Ytdagpeencafheaa.Oct
open Go.RowKit Go.Proofs.YtdagpeencafheaaW.PrintWords Go.Proofs.Ytdagpeencafheaa.M
set_option linter.unusedVariables false
set_option linter.unusedSimpArgs false
/-- what a law says at its end -/
def Yes (w : World) (e : Ending) (w' : World) : Prop := e = .returned (.bool true) ∧ Below w.heap.size w w'
theorem u8_xor {x y : Int} (hx0 : 0 ≤ x) (hx : x < 256) (hy0 : 0 ≤ y) (hy : y < 256) : Go.bits .xor .u8 x y = ((x.toNat ^^^ y.toNat : Nat) : Int) := by
  obtain ⟨a, rfl⟩ := Int.eq_ofNat_of_zero_le hx0
  obtain ⟨b, rfl⟩ := Int.eq_ofNat_of_zero_le hy0
  have ha : a < 2 ^ 8 := by omega
  have hb : b < 2 ^ 8 := by omega
  have h : a ^^^ b < 2 ^ 8 := Nat.xor_lt_two_pow ha hb
  have ha' : a % 2 ^ IntKind.u8.bits = a := Nat.mod_eq_of_lt ha
  have hb' : b % 2 ^ IntKind.u8.bits = b := Nat.mod_eq_of_lt hb
  simp only [Go.bits, BitVec.ofInt_natCast, BitVec.toNat_xor, BitVec.toNat_ofNat, ha', hb', Int.toNat_natCast]
  exact wraps_u8 _ (by omega) (by omega)

set_option maxHeartbeats 400000 in
theorem turned_calls (w : World) (A : Option Addr) (c : Nat) (xs : List Int) (p y : Int) (hr : Kd.C (Kd.int .u8) w A xs.length xs) (hx : Bytes xs) (hy : Byte y) :
    Calls Try.prog 3 #[.slice A xs.length c, .int .i64 p, .int .u8 y] w (Yes w) := by
  have HR := Aside0.mk hr
  have HX := Aside0.mk hx
  have hlen : xs.length ≤ 9223372036854775807 := hr.2.1
  obtain ⟨hy0, hy1⟩ := hy
  clear hr hx
  by_cases h1 : 5000 < (xs.length : Int)
  · go_enter Try.func3, Try.ntmps3
    go_wp2_with (go_at_call 12; refine (alive_calls _).mono ?_; rintro e w1 ⟨rfl, hb⟩)
    go_ret
    exact ⟨rfl, hb⟩
  by_cases h2 : p < 0
  · go_enter Try.func3, Try.ntmps3
    go_wp2_with (go_at_call 12; refine (alive_calls _).mono ?_; rintro e w1 ⟨rfl, hb⟩)
    go_ret
    exact ⟨rfl, hb⟩
  by_cases h3 : (xs.length : Int) ≤ p
  · go_enter Try.func3, Try.ntmps3
    go_wp2_with (go_at_call 12; refine (alive_calls _).mono ?_; rintro e w1 ⟨rfl, hb⟩)
    go_ret
    exact ⟨rfl, hb⟩
  by_cases h4 : y = 0
  · subst h4
    go_enter Try.func3, Try.ntmps3
    go_wp2_with (go_at_call 12; refine (alive_calls _).mono ?_; rintro e w1 ⟨rfl, hb⟩)
    go_ret
    exact ⟨rfl, hb⟩
  obtain ⟨n, rfl⟩ := Int.eq_ofNat_of_zero_le (show 0 ≤ p by omega)
  have hn : n < xs.length := by omega
  have hyb : (y == 0) = false := beq_eq_false_iff_ne.2 h4
  go_enter Try.func3, Try.ntmps3
  go_wp2_with fail
  refine (copy_calls _ _ _ xs HR.out (by omega)).mono ?_
  rintro e w1 ⟨v, rfl, ho, hb⟩
  obtain ⟨g, cap, rfl, hg1, hg2⟩ := ho.form (by omega)
  obtain ⟨hc, hf⟩ := own_at ho (n : Int) (by omega) (by omega)
  have hrd : rd xs (n : Int) = xs.getD n 0 := rfl
  rw [hrd, Int.toNat_natCast] at hc
  rw [Int.toNat_natCast] at hf
  have HO := Aside0.mk ho
  have HB := Aside0.mk hb
  have HG := Aside0.mk hg1
  have hbn := HX.out.getD n
  obtain ⟨x, hxe⟩ : ∃ x, x = xs.getD n 0 := ⟨_, rfl⟩
  rw [← hxe] at hc hbn
  have HXE := Aside0.mk hxe
  obtain ⟨hb0, hb1⟩ := hbn
  clear ho hb hrd hg1 hg2 hxe
  have hxor := u8_xor hb0 hb1 hy0 hy1
  have hzb : Byte ((x.toNat ^^^ y.toNat : Nat) : Int) := by have := xor_byte (a := x.toNat) (b := y.toNat) (by omega) (by omega); unfold Byte; omega
  have hne : xs.getD n 0 ≠ ((x.toNat ^^^ y.toNat : Nat) : Int) := by rw [← HXE.out]; have := xor_ne (a := x.toNat) (b := y.toNat) (by omega); omega
  obtain ⟨z, hz⟩ : ∃ z : Int, z = ((x.toNat ^^^ y.toNat : Nat) : Int) := ⟨_, rfl⟩
  rw [← hz] at hxor hzb hne
  have HNE := Aside0.mk (sumOf_turned HX.out hn hzb hne)
  have HZ := Aside0.mk (HX.out.set hzb n)
  have HP := Aside0.mk (own_store HO.out (n : Int) z)
  rw [Int.toNat_natCast] at HP
  have HB2 := Aside0.mk (HB.out.setCell (p := ⟨g, n, none⟩) HG.out (.int .u8 z))
  clear hz hzb hne
  go_wp2_with fail
  refine (alive_calls _).mono ?_
  rintro e w2 ⟨rfl, hb2⟩
  have HB3 := Aside0.mk (HB2.out.trans (hb2.mono HB2.out.size))
  have HO2 : Aside0 (OB w2 w.heap.size (.slice (some ⟨g, 0, none⟩) xs.length cap) (xs.set n z)) := ⟨OB.below (by have := HP.out.1; unfold OB; rw [List.length_set]; exact this) hb2⟩
  clear hb2
  go_wp2_with fail
  refine (sum_calls _ _ _ xs (Kd.C_below HR.out HB3.out) HX.out).mono ?_
  rintro e w3 ⟨rfl, rfl⟩
  go_wp2_with fail
  obtain ⟨A2, c2, e2, hr2⟩ := HO2.out.reads
  injection e2 with e21 e22 e23
  subst e21
  clear e22 e23
  have hsl : (xs.set n z).length = xs.length := List.length_set
  rw [← hsl]
  refine (sum_calls _ _ _ (xs.set n z) hr2 HZ.out).mono ?_
  rintro e w3 ⟨rfl, rfl⟩
  have hfin : (sumOf xs != sumOf (xs.set n z)) = true := bne_iff_ne.2 HNE.out
  clear hsl hr2
  go_wp2_with fail
  go_ret
  exact ⟨rfl, HB3.out⟩

/-- a row of bytes that came in, as the row's frame has it -/
abbrev InRow (w : World) (a0 : Option Addr) (len0 cap0 : Nat) (z0 : List Int) : Prop := (a0 = none ∧ len0 = 0 ∧ cap0 = 0 ∧ z0 = []) ∨ ∃ x, a0 = some x ∧ len0 ≤ cap0 ∧ cap0 ≤ maxLen ∧ z0.length = cap0 ∧ (∀ i, i < z0.length → w.cell? (x.add i) = some (.int .u8 (z0.getD i 0))) ∧ ∀ n ∈ z0, (Lit.int .u8 n).wf = true
theorem byte_wf {x : Int} (h : (Lit.int .u8 x).wf = true) : Byte x := by
  have := Go.bounds_u8 h
  unfold Byte
  omega
theorem in_row {w : World} {a0 : Option Addr} {len0 cap0 : Nat} {z0 : List Int} (h : InRow w a0 len0 cap0 z0) : ∃ l0, len0 = l0.length ∧ Kd.C (Kd.int .u8) w a0 l0.length l0 ∧ Bytes l0 ∧ l0.length ≤ cap0 := by
  obtain ⟨l0, rfl, hr0, hm0, hw0, hc0⟩ := ReadsInt.ofRowC h
  exact ⟨l0, rfl, Kd.C_of_reads (d := (0 : Int)) hr0, fun x hx => byte_wf (hw0 x hx), hc0⟩
theorem turned_row (a0 : Option Addr) (len0 cap0 : Nat) (z0 : List Int) (a1 a2 : Int) (w : World) (w0 : InRow w a0 len0 cap0 z0) (y0 : len0 * 1 ≤ 140737488351232) (w1 : (Lit.int .i64 a1).wf = true) (w2 : (Lit.int .u8 a2).wf = true) :
    Calls Try.prog 3 #[.slice a0 len0 cap0, .int .i64 a1, .int .u8 a2] w fun e w' => e = .returned (.bool true) ∧ Below w.heap.size w w' := by
  obtain ⟨l0, rfl, hr, hx, _⟩ := in_row w0
  exact turned_calls w a0 cap0 l0 a1 a2 hr hx (byte_wf w2)
end Go.Proofs.Ytdagpeencafheaa.Oct
