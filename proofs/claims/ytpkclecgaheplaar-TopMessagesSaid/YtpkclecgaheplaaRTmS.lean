import Derived.Test.YtpkclecgaheplaaRTmR
import Derived.Test.YtpkclecgaheplaaRTmPe
/- Messages as data; comes; alive. -/
namespace Go.Proofs.YtpkclecgaheplaaR.Oct
open Go.RowKit Go.Proofs.YtpkclecgaheplaaRW.PrintWords Go.Proofs.YtpkclecgaheplaaR.M Go.Proofs.YtpkclecgaheplaaR.Rd
set_option linter.unusedVariables false
set_option linter.unusedSimpArgs false
abbrev MgT := Int × (Int × Int × Int) × Bool × Int × Int
abbrev luwK : Kd (Int × Int × Int) := Kd.pair (Kd.int .i64) (Kd.pair (Kd.int .u32) (Kd.int .u32))
abbrev mgK : Kd MgT := Kd.pair (Kd.int .i64) (Kd.pair luwK (Kd.pair Kd.bool (Kd.pair (Kd.int .u32) (Kd.int .u32))))
def mgOf (o : MgT) : Mg := ⟨o.1, o.2.1.1, o.2.1.2.1, o.2.1.2.2, o.2.2.1, o.2.2.2.1, o.2.2.2.2⟩
def LuG (o : Int × Int × Int) : Prop := (Lit.int .i64 o.1).wf = true ∧ (Lit.int .u32 o.2.1).wf = true ∧ (Lit.int .u32 o.2.2).wf = true
def MgG (o : MgT) : Prop := (Lit.int .i64 o.1).wf = true ∧ LuG o.2.1 ∧ True ∧ (Lit.int .u32 o.2.2.2.1).wf = true ∧ (Lit.int .u32 o.2.2.2.2).wf = true
abbrev WyT := Int × Int × Int × Int
abbrev wyK : Kd WyT := Kd.pair (Kd.int .i64) (Kd.pair (Kd.int .i64) (Kd.pair (Kd.int .i64) (Kd.int .u8)))
def WyG (o : WyT) : Prop := (Lit.int .i64 o.1).wf = true ∧ (Lit.int .i64 o.2.1).wf = true ∧ (Lit.int .i64 o.2.2.1).wf = true ∧ (Lit.int .u8 o.2.2.2).wf = true
section
variable {H : Type} {enc : TypeId × Value → H} {w : World} {base : Nat} {spare : Nat → Bool} {held : Bool}
theorem Rd.bool {T : TypeId} (hu : Try.prog.underlying T = some .bool) (hc : Try.prog.cellsOf T = 1) : Rd enc Try.prog w base spare held T Kd.bool (fun _ => True) := by
  refine ⟨hc, fun fuel cs x h _ => ?_⟩
  obtain ⟨b, rfl, rfl⟩ := DataW.trod_bool hu h
  exact ⟨b, rfl, trivial⟩
theorem luwRd : Rd enc Try.prog w base spare held 34 luwK LuG :=
  Rd.struct (ts := [3, 32, 32]) Try.underlying34 (by rfl) (by kernel_rfl) (by kernel_rfl) (RdL.cons (Rd.int Try.underlying3 (by kernel_rfl)) (RdL.cons (Rd.int Try.underlying32 (by kernel_rfl)) (RdL.one (Rd.int Try.underlying32 (by kernel_rfl)))))
theorem mgRd : Rd enc Try.prog w base spare held 36 mgK MgG :=
  Rd.struct (ts := [3, 34, 4, 32, 32]) Try.underlying36 (by rfl) (by kernel_rfl) (by kernel_rfl) (RdL.cons (Rd.int Try.underlying3 (by kernel_rfl)) (RdL.cons luwRd (RdL.cons (Rd.bool Try.underlying4 (by kernel_rfl)) (RdL.cons (Rd.int Try.underlying32 (by kernel_rfl)) (RdL.one (Rd.int Try.underlying32 (by kernel_rfl)))))))
theorem mgsRd : Rd enc Try.prog w base spare held 22 (Kd.slice 36 mgK) (fun xs => (∀ x ∈ xs, MgG x) ∧ xs.length * Try.prog.bytesOf 36 ≤ reachBytes) := Rd.slice Try.underlying22 (by kernel_rfl) mgRd
theorem wyRd : Rd enc Try.prog w base spare held 42 wyK WyG :=
  Rd.struct (ts := [3, 3, 3, 5]) Try.underlying42 (by rfl) (by kernel_rfl) (by kernel_rfl) (RdL.cons (Rd.int Try.underlying3 (by kernel_rfl)) (RdL.cons (Rd.int Try.underlying3 (by kernel_rfl)) (RdL.cons (Rd.int Try.underlying3 (by kernel_rfl)) (RdL.one (Rd.int Try.underlying5 (by kernel_rfl))))))
theorem wysRd : Rd enc Try.prog w base spare held 23 (Kd.slice 42 wyK) (fun xs => (∀ x ∈ xs, WyG x) ∧ xs.length * Try.prog.bytesOf 42 ≤ reachBytes) := Rd.slice Try.underlying23 (by kernel_rfl) wyRd
end
theorem u32b {n : Int} (h : (Lit.int .u32 n).wf = true) : 0 ≤ n ∧ n < 4294967296 := by
  have := Go.bounds_u32 h
  omega
theorem MgG.ok {o : MgT} (h : MgG o) : (mgOf o).ok := ⟨i64b h.1, i64b h.2.1.1, u32b h.2.1.2.1, u32b h.2.1.2.2, u32b h.2.2.2.1, u32b h.2.2.2.2⟩
theorem add_lit9 (a : Addr) (i j : Nat) : a.add (i + (j + 1)) = ⟨(a.add i).block, (a.add i).off + (j + 1), none⟩ := by
  unfold Addr.add
  rw [if_neg (by omega)]
  split
  · rename_i h; subst h; simp
  · simp; omega
theorem mg_at {W : World} {A : Option Addr} {n : Nat} {l : List MgT} (h : mgK.C W A n l) {k : Nat} (hk : k < n) (z : MgT) :
    ∃ ad, A = some ad ∧ W.cell? (ad.add (k * 7)) = some (.int .i64 (mgOf (l.getD k z)).k) ∧ W.cell? ⟨(ad.add (k * 7)).block, (ad.add (k * 7)).off + 1, none⟩ = some (.int .i64 (mgOf (l.getD k z)).u) ∧ W.cell? ⟨(ad.add (k * 7)).block, (ad.add (k * 7)).off + 2, none⟩ = some (.int .u32 (mgOf (l.getD k z)).l) ∧ W.cell? ⟨(ad.add (k * 7)).block, (ad.add (k * 7)).off + 3, none⟩ = some (.int .u32 (mgOf (l.getD k z)).s) ∧
      W.cell? ⟨(ad.add (k * 7)).block, (ad.add (k * 7)).off + 4, none⟩ = some (.bool (mgOf (l.getD k z)).x) ∧ W.cell? ⟨(ad.add (k * 7)).block, (ad.add (k * 7)).off + 5, none⟩ = some (.int .u32 (mgOf (l.getD k z)).m) ∧ W.cell? ⟨(ad.add (k * 7)).block, (ad.add (k * 7)).off + 6, none⟩ = some (.int .u32 (mgOf (l.getD k z)).y) := by
  obtain ⟨ad, c, e, hs, hK, hcell⟩ := Kd.C_get h z (k : Int) (by omega) (by omega)
  simp only [Int.toNat_natCast] at hK hcell
  obtain ⟨c0, _, rfl, h0, _, _, rfl, ⟨d0, _, rfl, e0, d1, d2, rfl, e1, e2⟩, c2, _, rfl, h2, c3, c4, rfl, h3, h4⟩ := hK
  have h0' : c0 = [.int .i64 (l.getD k z).1] := h0
  have e0' : d0 = [.int .i64 (l.getD k z).2.1.1] := e0
  have e1' : d1 = [.int .u32 (l.getD k z).2.1.2.1] := e1
  have e2' : d2 = [.int .u32 (l.getD k z).2.1.2.2] := e2
  have h2' : c2 = [.bool (l.getD k z).2.2.1] := h2
  have h3' : c3 = [.int .u32 (l.getD k z).2.2.2.1] := h3
  have h4' : c4 = [.int .u32 (l.getD k z).2.2.2.2] := h4
  subst h0' e0' e1' e2' h2' h3' h4'
  exact ⟨ad, e, hcell 0 _ rfl, (by rw [← add_lit9]; exact hcell 1 _ rfl), (by rw [← add_lit9]; exact hcell 2 _ rfl), (by rw [← add_lit9]; exact hcell 3 _ rfl), (by rw [← add_lit9]; exact hcell 4 _ rfl), (by rw [← add_lit9]; exact hcell 5 _ rfl), (by rw [← add_lit9]; exact hcell 6 _ rfl)⟩
theorem wy_at {W : World} {A : Option Addr} {n : Nat} {l : List WyT} (h : wyK.C W A n l) {k : Nat} (hk : k < n) (z : WyT) :
    ∃ ad, A = some ad ∧ W.cell? (ad.add (k * 4)) = some (.int .i64 (l.getD k z).1) ∧ W.cell? ⟨(ad.add (k * 4)).block, (ad.add (k * 4)).off + 1, none⟩ = some (.int .i64 (l.getD k z).2.1) ∧ W.cell? ⟨(ad.add (k * 4)).block, (ad.add (k * 4)).off + 2, none⟩ = some (.int .i64 (l.getD k z).2.2.1) ∧ W.cell? ⟨(ad.add (k * 4)).block, (ad.add (k * 4)).off + 3, none⟩ = some (.int .u8 (l.getD k z).2.2.2) := by
  obtain ⟨ad, c, e, hs, hK, hcell⟩ := Kd.C_get h z (k : Int) (by omega) (by omega)
  simp only [Int.toNat_natCast] at hK hcell
  obtain ⟨c0, _, rfl, h0, c2, _, rfl, h2, c3, c4, rfl, h3, h4⟩ := hK
  have h0' : c0 = [.int .i64 (l.getD k z).1] := h0
  have h2' : c2 = [.int .i64 (l.getD k z).2.1] := h2
  have h3' : c3 = [.int .i64 (l.getD k z).2.2.1] := h3
  have h4' : c4 = [.int .u8 (l.getD k z).2.2.2] := h4
  subst h0' h2' h3' h4'
  exact ⟨ad, e, hcell 0 _ rfl, (by rw [← add_lit9]; exact hcell 1 _ rfl), (by rw [← add_lit9]; exact hcell 2 _ rfl), (by rw [← add_lit9]; exact hcell 3 _ rfl)⟩
set_option maxRecDepth 20000 in
set_option maxHeartbeats 4000000 in
theorem comes_calls (w : World) (l : List MgT) (A : Option Addr) (c i : Nat) (B : Option Addr) (d : Nat) (h : mgK.C w A l.length l) (hi : i < l.length) (z : MgT) (hr : (mgOf (l.getD i z)).right) (ho : (mgOf (l.getD i z)).ok) (hb : Kd.C (Kd.int .u8) w B (mgOf (l.getD i z)).bytes.length (mgOf (l.getD i z)).bytes) (hd : (mgOf (l.getD i z)).bytes.length ≤ d) (hd63 : d ≤ 9223372036854775807) :
    Calls Try.prog 11 #[.agg #[.int .u32 9, .int .i64 i, .int .i64 0, .slice B (mgOf (l.getD i z)).bytes.length d], .slice A l.length c] w fun e w' => e = .returned (.bool true) ∧ Below w.heap.size w w' := by
  have hll : l.length ≤ 9223372036854775807 := h.2.1
  obtain ⟨ad, rfl, m0, m1, m2, m3, m4, m5, m6⟩ := mg_at h hi z
  obtain ⟨a, ha⟩ : ∃ a, a = mgOf (l.getD i z) := ⟨_, rfl⟩
  rw [← ha] at hr ho hb hd m0 m1 m2 m3 m4 m5 m6 ⊢
  have HPR : Aside0 (∀ W, Below w.heap.size w W → Calls Try.prog 25 #[.slice B a.bytes.length d] W fun e w' => e = .returned (.tuple #[mgV a, .int .i64 0]) ∧ Below W.heap.size W w') := ⟨fun W hW => pread_calls W a B d hr ho (Kd.C_below hb hW) hd hd63⟩
  obtain ⟨L, hL⟩ : ∃ L, L = a.bytes.length := ⟨_, rfl⟩
  rw [← hL] at HPR ⊢
  obtain ⟨k, u, l1, s, x, m, y⟩ := a
  dsimp only at m0 m1 m2 m3 m4 m5 m6
  have hlt : (i : Int) < (l.length : Int) := by omega
  have HM : Aside0 (∀ W, Below w.heap.size w W → W.cell? (ad.add (i * 7)) = some (.int .i64 k) ∧ W.cell? ⟨(ad.add (i * 7)).block, (ad.add (i * 7)).off + 1, none⟩ = some (.int .i64 u) ∧ W.cell? ⟨(ad.add (i * 7)).block, (ad.add (i * 7)).off + 2, none⟩ = some (.int .u32 l1) ∧ W.cell? ⟨(ad.add (i * 7)).block, (ad.add (i * 7)).off + 3, none⟩ = some (.int .u32 s) ∧ W.cell? ⟨(ad.add (i * 7)).block, (ad.add (i * 7)).off + 4, none⟩ = some (.bool x) ∧ W.cell? ⟨(ad.add (i * 7)).block, (ad.add (i * 7)).off + 5, none⟩ = some (.int .u32 m) ∧ W.cell? ⟨(ad.add (i * 7)).block, (ad.add (i * 7)).off + 6, none⟩ = some (.int .u32 y)) := ⟨fun W hW =>
    ⟨(hW.cell (World.block_lt_of_cell? _ _ m0)).trans m0, (hW.cell (World.block_lt_of_cell? _ _ m1)).trans m1, (hW.cell (World.block_lt_of_cell? _ _ m2)).trans m2, (hW.cell (World.block_lt_of_cell? _ _ m3)).trans m3, (hW.cell (World.block_lt_of_cell? _ _ m4)).trans m4, (hW.cell (World.block_lt_of_cell? _ _ m5)).trans m5, (hW.cell (World.block_lt_of_cell? _ _ m6)).trans m6⟩⟩
  obtain ⟨w0, hw0⟩ : ∃ w0, w0 = w.alloc (.cells #[.int .u32 9, .int .i64 i, .int .i64 0, .slice B L d] 39) := ⟨_, rfl⟩
  have HB0 : Aside0 (Below w.heap.size w w0) := ⟨by rw [hw0]; exact below_alloc (Below.refl _ _) _⟩
  have HH0 : Aside0 (w0.heap[w.heap.size]? = some (.cells #[.int .u32 9, .int .i64 i, .int .i64 0, .slice B L d] 39 (0, 0))) := ⟨by rw [hw0]; exact heap_alloc_new w _⟩
  have HW0 := Aside0.mk hw0
  obtain ⟨f0, f1, f2, f3, _⟩ := four_cells HH0.out
  clear h hr ho hb hd ha hL hw0 m0 m1 m2 m3 m4 m5 m6 hi
  go_enter Try.func11, Try.ntmps11
  go_wp2_with fail
  rw [← HW0.out]
  go_wp2_with fail
  refine (HPR.out _ HB0.out).mono ?_
  rintro e w1 ⟨rfl, hb1⟩
  obtain ⟨V, hV⟩ : ∃ V, V = w1.alloc (mgC ⟨k, u, l1, s, x, m, y⟩) := ⟨_, rfl⟩
  have HB1 : Aside0 (Below w.heap.size w V) := ⟨by rw [hV]; exact below_alloc (HB0.out.trans (hb1.mono HB0.out.size)) _⟩
  have HH1 : Aside0 (V.heap[w.heap.size]? = some (.cells #[.int .u32 9, .int .i64 i, .int .i64 0, .slice B L d] 39 (0, 0))) := ⟨by rw [hV]; exact blk_keep (blk_keep HH0.out hb1) (below_alloc (Below.refl _ _) _)⟩
  have HH7 : Aside0 (V.heap[w1.heap.size]? = some (.cells #[.int .i64 k, .int .i64 u, .int .u32 l1, .int .u32 s, .bool x, .int .u32 m, .int .u32 y] 36 (0, 0))) := ⟨by rw [hV]; exact heap_alloc_new w1 _⟩
  have HV := Aside0.mk hV
  clear hb1 hV f0 f1 f2 f3
  go_wp2_with fail
  rw [← HV.out]
  obtain ⟨f0, f1, f2, f3, _⟩ := four_cells HH1.out
  obtain ⟨⟨v0, v1, v2, v3, v4, v5, v6⟩, _⟩ := seven_frz HH7.out
  obtain ⟨m0, m1, m2, m3, m4, m5, m6⟩ := HM.out _ HB1.out
  go_wp2_with fail
  go_quiet (fail)
  obtain ⟨w5, hw5⟩ : ∃ w5, w5 = V.drewN nq := ⟨_, rfl⟩
  have HB5 : Aside0 (Below w.heap.size w w5) := ⟨by rw [hw5]; exact pw_below_drewN HB1.out _⟩
  rw [← hw5]
  clear hw5
  go_wp2_with fail
  go_ret
  exact ⟨by first | rfl | simp, HB5.out⟩
end Go.Proofs.YtpkclecgaheplaaR.Oct
