import Derived.Test.YtcnohnieoecpdaaWalAi
/- The calls of WalLives, as data; the log's Room. -/
namespace Go.Proofs.Ytcnohnieoecpdaa.Oct
open Go.RowKit Go.Proofs.YtcnohnieoecpdaaW.PrintWords Go.Proofs.Ytcnohnieoecpdaa.M Go.Proofs.Ytcnohnieoecpdaa.Rd
set_option linter.unusedVariables false
set_option linter.unusedSimpArgs false
abbrev OpW := Int × Int × Rc × Bool × List Rc
abbrev wopK : Kd OpW := Kd.pair (Kd.int .i64) (Kd.pair (Kd.int .i64) (Kd.pair recK (Kd.pair Kd.bool (Kd.slice 24 recK))))
def OpWG (o : OpW) : Prop := (Lit.int .i64 o.1).wf = true ∧ (Lit.int .i64 o.2.1).wf = true ∧ RcG o.2.2.1 ∧ True ∧ ((∀ x ∈ o.2.2.2.2, RcG x) ∧ o.2.2.2.2.length * Try.prog.bytesOf 24 ≤ reachBytes)
section
variable {H : Type} {enc : TypeId × Value → H} {w : World} {base : Nat} {spare : Nat → Bool} {held : Bool}
theorem Rd.bool {T : TypeId} (hu : Try.prog.underlying T = some .bool) (hc : Try.prog.cellsOf T = 1) : Rd enc Try.prog w base spare held T Kd.bool (fun _ => True) := by
  refine ⟨hc, fun fuel cs x h _ => ?_⟩
  obtain ⟨b, rfl, rfl⟩ := DataW.trod_bool hu h
  exact ⟨b, rfl, trivial⟩
theorem wopRd : Rd enc Try.prog w base spare held 68 wopK OpWG :=
  Rd.struct (ts := [3, 3, 24, 4, 30]) Try.underlying68 (by rfl) (by kernel_rfl) (by kernel_rfl) (RdL.cons (Rd.int Try.underlying3 (by kernel_rfl)) (RdL.cons (Rd.int Try.underlying3 (by kernel_rfl)) (RdL.cons recRd (RdL.cons (Rd.bool Try.underlying4 (by kernel_rfl)) (RdL.one recsRd)))))
theorem wopsRd : Rd enc Try.prog w base spare held 60 (Kd.slice 68 wopK) (fun xs => (∀ x ∈ xs, OpWG x) ∧ xs.length * Try.prog.bytesOf 68 ≤ reachBytes) := Rd.slice Try.underlying60 (by kernel_rfl) wopRd
end
def OpWOk (o : OpW) : Prop := (-9223372036854775808 ≤ o.1 ∧ o.1 ≤ 9223372036854775807) ∧ (-9223372036854775808 ≤ o.2.1 ∧ o.2.1 ≤ 9223372036854775807) ∧ RcOk o.2.2.1 ∧ ∀ r ∈ o.2.2.2.2, RcOk r
theorem OpWG.ok {o : OpW} (h : OpWG o) : OpWOk o := ⟨i64b h.1, i64b h.2.1, RcG.ok h.2.2.1, fun r hr => RcG.ok (h.2.2.2.2.1 r hr)⟩
theorem wop_at {W : World} {A : Option Addr} {n : Nat} {l : List OpW} (h : wopK.C W A n l) {k : Nat} (hk : k < n) (z : OpW) :
    ∃ ad B c E d, A = some ad ∧ W.cell? (ad.add (k * 6)) = some (.int .i64 (l.getD k z).1) ∧ W.cell? ⟨(ad.add (k * 6)).block, (ad.add (k * 6)).off + 1, none⟩ = some (.int .i64 (l.getD k z).2.1) ∧ W.cell? ⟨(ad.add (k * 6)).block, (ad.add (k * 6)).off + 2, none⟩ = some (.int .i64 (l.getD k z).2.2.1.1) ∧
      W.cell? ⟨(ad.add (k * 6)).block, (ad.add (k * 6)).off + 3, none⟩ = some (.slice B (l.getD k z).2.2.1.2.length c) ∧ W.cell? ⟨(ad.add (k * 6)).block, (ad.add (k * 6)).off + 4, none⟩ = some (.bool (l.getD k z).2.2.2.1) ∧ W.cell? ⟨(ad.add (k * 6)).block, (ad.add (k * 6)).off + 5, none⟩ = some (.slice E (l.getD k z).2.2.2.2.length d) ∧
      (l.getD k z).2.2.1.2.length ≤ c ∧ Kd.C (Kd.int .u8) W B (l.getD k z).2.2.1.2.length (l.getD k z).2.2.1.2 ∧ recK.C W E (l.getD k z).2.2.2.2.length (l.getD k z).2.2.2.2 := by
  obtain ⟨ad, c, e, hs, hK, hcell⟩ := Kd.C_get h z (k : Int) (by omega) (by omega)
  simp only [Int.toNat_natCast] at hK hcell
  obtain ⟨c0, _, rfl, h0, c2, _, rfl, h2, c4, _, rfl, ⟨d0, _, rfl, h4, B, cc, rfl, hl, hr⟩, c6, _, rfl, h6, E, ec, rfl, hl2, hr2⟩ := hK
  have h0' : c0 = [.int .i64 (l.getD k z).1] := h0
  have h2' : c2 = [.int .i64 (l.getD k z).2.1] := h2
  have h4' : d0 = [.int .i64 (l.getD k z).2.2.1.1] := h4
  have h6' : c6 = [.bool (l.getD k z).2.2.2.1] := h6
  subst h0' h2' h4' h6'
  exact ⟨ad, B, cc, E, ec, e, hcell 0 _ rfl, (by rw [← add_lit_add]; exact hcell 1 _ rfl), (by rw [← add_lit_add]; exact hcell 2 _ rfl), (by rw [← add_lit_add]; exact hcell 3 _ rfl), (by rw [← add_lit_add]; exact hcell 4 _ rfl), (by rw [← add_lit_add]; exact hcell 5 _ rfl), hl, hr, hr2⟩
theorem six_cells {W : World} {b : Nat} {x y z u v s : Value} {t : TypeId} (h : W.heap[b]? = some (.cells #[x, y, z, u, v, s] t (0, 0))) :
    W.cell? ⟨b, 0, none⟩ = some x ∧ W.cell? ⟨b, 1, none⟩ = some y ∧ W.cell? ⟨b, 2, none⟩ = some z ∧ W.cell? ⟨b, 3, none⟩ = some u ∧ W.cell? ⟨b, 4, none⟩ = some v ∧ W.cell? ⟨b, 5, none⟩ = some s := by
  refine ⟨?_, ?_, ?_, ?_, ?_, ?_⟩ <;> simp [World.cell?, h]
theorem lroom_calls (w : World) (base q p : Nat) (t : TS) (ls : List Rc) (ex : Nat → Prop) (h : LgAt base w q p t ls ex) : Calls Try.prog 30 #[.pointer (some ⟨q, 0, none⟩)] w fun e w' => e = .returned (.int .i64 (IntKind.i64.wrap ((t.room : Int) - t.bs.length))) ∧ Below w.heap.size w w' := by
  have hok := LgAt.ok h
  have h1 : t.room ≤ 65536 := hok.2.1
  have h2 : t.bs.length ≤ t.room := hok.2.2.1
  have HB0 : Aside0 (Below w.heap.size w w) := ⟨Below.refl _ _⟩
  have HBD : Aside0 (Below w.heap.size w w.drew) := ⟨below_drew (Below.refl _ _)⟩
  have HLM : Aside0 (Calls Try.prog 49 #[.pointer (some ⟨q, 0, none⟩)] w fun e w' => e = .returned (.bool true) ∧ w' = w) := ⟨by
    obtain ⟨F, G, _, h2, _⟩ := h
    exact lmade_calls w q p ls G h2⟩
  have HS : Aside0 (∀ W, Below w.heap.size w W → W.cell? ⟨q, 0, none⟩ = some (.pointer (some ⟨p, 0, none⟩))) := ⟨fun W hW => by
    obtain ⟨F, G, _, ⟨v, hh, _⟩, _⟩ := h.below hW
    exact (two_cells' hh).1⟩
  have HT : Aside0 (∀ W, Below w.heap.size w W → ∃ F, TapeAt W p t F) := ⟨fun W hW => by
    obtain ⟨F, G, h1, _⟩ := h.below hW
    exact ⟨F, h1⟩⟩
  have HC1 : Aside0 (∀ W, Below w.heap.size w W → Calls Try.prog 44 #[.pointer (some ⟨p, 0, none⟩)] W fun e w' => e = .returned (.int .i64 t.room) ∧ Below w.heap.size w w') := ⟨fun W hW => by
    obtain ⟨F, h⟩ := HT.out W hW
    refine (room_calls W p t F h).mono ?_
    rintro e w' ⟨rfl, hw⟩
    exact ⟨rfl, hw.symm ▸ hW⟩⟩
  have HC2 : Aside0 (∀ W, Below w.heap.size w W → Calls Try.prog 24 #[.pointer (some ⟨p, 0, none⟩)] W fun e w' => e = .returned (.int .i64 t.bs.length) ∧ Below w.heap.size w w') := ⟨fun W hW => by
    obtain ⟨F, h⟩ := HT.out W hW
    refine (len_calls W p t F h).mono ?_
    rintro e w' ⟨rfl, hw⟩
    exact ⟨rfl, hw.symm ▸ hW⟩⟩
  have x0 := HS.out _ HB0.out
  clear h hok
  go_enter Try.func30, Try.ntmps30
  go_wp2_with fail
  refine HLM.out.mono ?_
  rintro e w1 ⟨rfl, hw1⟩
  have hw1 := hw1.symm
  subst hw1
  go_wp2_with fail
  go_region_held_law (fun W => W.cell? ⟨q, 0, none⟩ = some (.pointer (some ⟨p, 0, none⟩))) (exact HS.out _ (Aside0.out (by assumption)))
    (first
     | (go_at_call 44; refine (HC1.out _ (Aside0.out (by assumption))).mono ?_; rintro e wa ⟨rfl, hba⟩; have HBa := Aside0.mk hba; clear hba)
     | (go_at_call 24; refine (HC2.out _ (Aside0.out (by assumption))).mono ?_; rintro e wb ⟨rfl, hbb⟩; have HBb := Aside0.mk hbb; clear hbb))
  all_goals
    go_wp2_with fail
    go_ret
    exact ⟨rfl, HBb.out⟩
end Go.Proofs.Ytcnohnieoecpdaa.Oct
