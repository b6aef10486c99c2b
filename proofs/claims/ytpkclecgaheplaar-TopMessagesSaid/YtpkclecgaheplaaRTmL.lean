import Derived.Test.YtpkclecgaheplaaRTmM
import Derived.Test.YtpkclecgaheplaaRFPut
import Derived.Test.YtpkclecgaheplaaRFGet
import Derived.Test.YtpkclecgaheplaaRFClone
import Derived.Test.YtpkclecgaheplaaROwn
import Derived.Test.YtpkclecgaheplaaRCall
import Derived.Deep.RegionHeldLaw
import Derived.Deep.DrawnRows
/- luw. -/
namespace Go.Proofs.YtpkclecgaheplaaR.Oct
open Go.RowKit Go.Proofs.YtpkclecgaheplaaRW.PrintWords Go.Proofs.YtpkclecgaheplaaR.M
set_option linter.unusedVariables false
set_option linter.unusedSimpArgs false
abbrev luwV (u l s : Int) : Value := .agg #[.int .i64 u, .int .u32 l, .int .u32 s]
abbrev luwC (u l s : Int) : Obj := .cells #[.int .i64 u, .int .u32 l, .int .u32 s] 34
theorem three_cellsl {W : World} {b : Nat} {x y z : Value} {t : TypeId} (h : W.heap[b]? = some (.cells #[x, y, z] t (0, 0))) : W.cell? ⟨b, 0, none⟩ = some x ∧ W.cell? ⟨b, 1, none⟩ = some y ∧ W.cell? ⟨b, 2, none⟩ = some z ∧ W.frozen? ⟨b, 0, none⟩ = false := by
  refine ⟨?_, ?_, ?_, ?_⟩ <;> simp [World.cell?, World.frozen?, h]
theorem luwright_calls (w : World) (u l s : Int) : Calls Try.prog 26 #[luwV u l s] w fun e w' => e = .returned (.bool (decide (luwP u s))) ∧ Below w.heap.size w w' := by
  have HB : Aside0 (Below w.heap.size w (w.alloc (luwC u l s))) := ⟨below_alloc (Below.refl _ _) _⟩
  have hc : u < 0 ∨ (0 ≤ u ∧ 6 ≤ u) ∨ ((0 ≤ u ∧ u < 6) ∧ ¬ 0 < s) ∨ ((0 ≤ u ∧ u < 6) ∧ 0 < s) := by omega
  rcases hc with h | ⟨h, h2⟩ | ⟨⟨h, h2⟩, h3⟩ | ⟨⟨h, h2⟩, h3⟩
  · have HD : Aside0 (decide (luwP u s) = false) := ⟨decide_eq_false (fun c => by have := c.1; omega)⟩
    go_enter Try.func26, Try.ntmps26
    go_wp2_with fail
    go_ret
    exact ⟨by rw [HD.out] <;> rfl, HB.out⟩
  · have HD : Aside0 (decide (luwP u s) = false) := ⟨decide_eq_false (fun c => by have := c.1; omega)⟩
    go_enter Try.func26, Try.ntmps26
    go_wp2_with fail
    go_ret
    exact ⟨by rw [HD.out] <;> rfl, HB.out⟩
  · have HD : Aside0 (decide (luwP u s) = false) := ⟨decide_eq_false (fun c => by have := c.2; omega)⟩
    have h4 : decide (0 < s) = false := decide_eq_false h3
    go_enter Try.func26, Try.ntmps26
    go_wp2_with fail
    go_ret
    exact ⟨by rw [HD.out] <;> first | rfl | simp [h4], HB.out⟩
  · have HD : Aside0 (decide (luwP u s) = true) := ⟨decide_eq_true ⟨⟨h, h2⟩, h3⟩⟩
    have h4 : decide (0 < s) = true := decide_eq_true h3
    go_enter Try.func26, Try.ntmps26
    go_wp2_with fail
    go_ret
    exact ⟨by rw [HD.out] <;> first | rfl | simp [h4], HB.out⟩
/-- a row just made -/
theorem ob_new (W : World) (base g : Nat) (xs : List Int) (hg : g = W.heap.size) (hb : base ≤ W.heap.size) (hl : xs.length ≤ 1000) : OB (W.alloc (.cells (nums .u8 xs).toArray 5)) base (.slice (some ⟨g, 0, none⟩) xs.length xs.length) xs := by
  subst hg
  refine ⟨by simp [nums], .inr ⟨W.heap.size, xs.length, (nums .u8 xs).toArray, rfl, hb, heap_alloc_new W _, Nat.le_refl _, by simp only [maxLen]; omega, by simp [nums], ?_⟩⟩
  rw [Nat.mul_one]
  exact List.take_of_length_le (by simp [nums])
theorem raw_calls (w : World) (u l s : Int) (hu : 0 ≤ u ∧ u < 6) (hl : 0 ≤ l ∧ l < 4294967296) (hs : 0 ≤ s ∧ s < 4294967296) : Calls Try.prog 27 #[luwV u l s] w fun e w' => ∃ A, e = .returned (.slice A 9 9) ∧ OB w' w.heap.size (.slice A 9 9) (rawB u l s) ∧ Below w.heap.size w w' := by
  have HB : Aside0 (rawB u l s = [u, l / 16777216, l / 65536 % 256, l / 256 % 256, l % 256, s / 16777216, s / 65536 % 256, s / 256 % 256, s % 256]) := ⟨by
    unfold rawB
    rw [beB4, beB4, show l / 16777216 % 256 = l / 16777216 by omega, show s / 16777216 % 256 = s / 16777216 by omega]
    rfl⟩
  obtain ⟨hu0, hu6⟩ := hu
  obtain ⟨hl0, hl4⟩ := hl
  obtain ⟨hs0, hs4⟩ := hs
  go_enter Try.func27, Try.ntmps27
  go_wp2_with fail
  go_ret
  have h := ob_new (w.alloc (luwC u l s)) w.heap.size (w.heap.size + 1) (rawB u l s) (by simp) (by simp) (by rw [rawB_len]; decide)
  rw [rawB_len] at h
  rw [HB.out] at h ⊢
  exact ⟨_, rfl, h, below_alloc (below_alloc (Below.refl _ _) _) _⟩
theorem lwrite_calls (w : World) (u l s : Int) (hp : luwP u s) (hl : 0 ≤ l ∧ l < 4294967296) (hs : 0 ≤ s ∧ s < 4294967296) : Calls Try.prog 17 #[luwV u l s] w fun e w' => ∃ A, e = .returned (.tuple #[.slice A 9 9, .int .i64 0]) ∧ OB w' w.heap.size (.slice A 9 9) (rawB u l s) ∧ Below w.heap.size w w' := by
  obtain ⟨W0, hW0⟩ : ∃ W0, W0 = w.alloc (luwC u l s) := ⟨_, rfl⟩
  have hb0 : Below w.heap.size w W0 := by rw [hW0]; exact below_alloc (Below.refl _ _) _
  have hh : W0.heap[w.heap.size]? = some (.cells #[.int .i64 u, .int .u32 l, .int .u32 s] 34 (0, 0)) := by rw [hW0]; exact heap_alloc_new w _
  have HH := Aside0.mk hh
  have HB0 := Aside0.mk hb0
  have HW := Aside0.mk hW0
  have HR := Aside0.mk (fun W => luwright_calls W u l s)
  rw [decide_eq_true hp] at HR
  have HRW := Aside0.mk (fun W => raw_calls W u l s hp.1 hl hs)
  obtain ⟨c0, c1, c2, _⟩ := three_cellsl hh
  clear hW0 hb0 hh hp hl hs
  go_enter Try.func17, Try.ntmps17
  go_wp2_with fail
  rw [← HW.out]
  go_wp2_with fail
  refine (HR.out _).mono ?_
  rintro e w1 ⟨rfl, hb1⟩
  have HB1 := Aside0.mk (HB0.out.trans (hb1.mono HB0.out.size))
  obtain ⟨c0, c1, c2, _⟩ := three_cellsl (blk_keep HH.out hb1)
  clear hb1
  go_wp2_with fail
  refine (HRW.out _).mono ?_
  rintro e w2 ⟨A, rfl, ho, hb2⟩
  have HO := Aside0.mk (ho.lower HB1.out.size)
  have HB2 := Aside0.mk (HB1.out.trans (hb2.mono HB1.out.size))
  clear ho hb2
  go_wp2_with fail
  go_ret2
  exact ⟨A, rfl, HO.out, HB2.out⟩
set_option maxHeartbeats 1000000 in
theorem four_calls (w : World) (A : Option Addr) (c : Nat) (xs : List Int) (h4 : xs.length = 4) (h : Kd.C (Kd.int .u8) w A 4 xs) (hx : Bytes xs) : Calls Try.prog 33 #[.slice A 4 c] w fun e w' => e = .returned (.int .u32 (getF xs)) ∧ Below w.heap.size w w' := by
  obtain ⟨a, b, x, d, rfl⟩ := list4 h4
  obtain ⟨ad, rfl, c0⟩ := C_byte h (k := 0) (by decide)
  obtain ⟨_, e, c1⟩ := C_byte h (k := 1) (by decide)
  cases e
  obtain ⟨_, e, c2⟩ := C_byte h (k := 2) (by decide)
  cases e
  obtain ⟨_, e, c3⟩ := C_byte h (k := 3) (by decide)
  cases e
  have ha := hx a (by simp)
  have hb := hx b (by simp)
  have hc := hx x (by simp)
  have hd := hx d (by simp)
  unfold Byte at ha hb hc hd
  obtain ⟨a0, a1⟩ := ha
  obtain ⟨b0, b1⟩ := hb
  obtain ⟨x0, x1⟩ := hc
  obtain ⟨d0, d1⟩ := hd
  have c0 : w.cell? ad = some (.int .u8 a) := by simpa [Addr.add] using c0
  have c1 : w.cell? ⟨ad.block, ad.off + 1, none⟩ = some (.int .u8 b) := c1
  have c2 : w.cell? ⟨ad.block, ad.off + 2, none⟩ = some (.int .u8 x) := c2
  have c3 : w.cell? ⟨ad.block, ad.off + 3, none⟩ = some (.int .u8 d) := c3
  have o1 : Go.bits .or .u32 (a * 16777216) (b * 65536) = a * 16777216 + b * 65536 := bits_join .u32 32 (by decide) (fun n h0 h1 => by rw [IntKind.wrap_u32]; omega) 24 _ _ (by omega) (by omega) (by omega) (by omega) (by omega) (by omega)
  have o2 : Go.bits .or .u32 (a * 16777216 + b * 65536) (x * 256) = a * 16777216 + b * 65536 + x * 256 := bits_join .u32 32 (by decide) (fun n h0 h1 => by rw [IntKind.wrap_u32]; omega) 16 _ _ (by omega) (by omega) (by omega) (by omega) (by omega) (by omega)
  have o3 : Go.bits .or .u32 (a * 16777216 + b * 65536 + x * 256) d = a * 16777216 + b * 65536 + x * 256 + d := bits_join .u32 32 (by decide) (fun n h0 h1 => by rw [IntKind.wrap_u32]; omega) 8 _ _ (by omega) (by omega) (by omega) (by omega) (by omega) (by omega)
  have wa : IntKind.u32.wrap (a) = a := by rw [IntKind.wrap_u32]; omega
  have wb : IntKind.u32.wrap (b) = b := by rw [IntKind.wrap_u32]; omega
  have wx : IntKind.u32.wrap (x) = x := by rw [IntKind.wrap_u32]; omega
  have wd : IntKind.u32.wrap (d) = d := by rw [IntKind.wrap_u32]; omega
  have va : IntKind.u32.wrap (a * 16777216) = a * 16777216 := by rw [IntKind.wrap_u32]; omega
  have vb : IntKind.u32.wrap (b * 65536) = b * 65536 := by rw [IntKind.wrap_u32]; omega
  have vx : IntKind.u32.wrap (x * 256) = x * 256 := by rw [IntKind.wrap_u32]; omega
  have s1 : IntKind.u32.wrap (a * 16777216 + b * 65536) = a * 16777216 + b * 65536 := by rw [IntKind.wrap_u32]; omega
  have s2 : IntKind.u32.wrap (a * 16777216 + b * 65536 + x * 256) = a * 16777216 + b * 65536 + x * 256 := by rw [IntKind.wrap_u32]; omega
  have s3 : IntKind.u32.wrap (a * 16777216 + b * 65536 + x * 256 + d) = a * 16777216 + b * 65536 + x * 256 + d := by rw [IntKind.wrap_u32]; omega
  have HG : Aside0 (getF [a, b, x, d] = a * 16777216 + b * 65536 + x * 256 + d) := ⟨by simp [getF]; omega⟩
  clear h hx h4
  go_enter Try.func33, Try.ntmps33
  go_wp2_with fail
  go_quiet (fail)
  go_wp2_with fail
  go_ret
  exact ⟨by rw [HG.out] <;> first | rfl | simp only [o1, o2, o3], pw_below_drewN (Below.refl _ _) _⟩
end Go.Proofs.YtpkclecgaheplaaR.Oct
