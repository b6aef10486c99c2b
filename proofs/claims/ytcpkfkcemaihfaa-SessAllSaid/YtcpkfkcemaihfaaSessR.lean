import Derived.Test.YtcpkfkcemaihfaaSessQ
/- An end beside the document's; the calls of SessLives, as data. -/
namespace Go.Proofs.Ytcpkfkcemaihfaa.Oct
open Go.RowKit Go.Proofs.YtcpkfkcemaihfaaW.PrintWords Go.Proofs.Ytcpkfkcemaihfaa.M Go.Proofs.Ytcpkfkcemaihfaa.Rd
set_option linter.unusedVariables false
set_option linter.unusedSimpArgs false
theorem own_put {W : World} {top m c : Nat} {A : Option Addr} (h : ∃ zs : List Int, zs.length = m ∧ Bytes zs ∧ OB W top (.slice A m c) zs) {k : Nat} (hk : k < m) :
    ∃ g z, A = some ⟨g, 0, none⟩ ∧ top ≤ g ∧ 0 ≤ z ∧ z < 256 ∧ W.cell? ⟨g, k, none⟩ = some (.int .u8 z) ∧ W.frozen? ⟨g, k, none⟩ = false ∧ ∀ x, Byte x → ∃ zs : List Int, zs.length = m ∧ Bytes zs ∧ OB (W.setCell ⟨g, k, none⟩ (.int .u8 x)) top (.slice A m c) zs := by
  obtain ⟨zs, hl, hb, ho⟩ := h
  have ho' : W.ownsRow top 5 1 (.slice A m c) m (nums .u8 zs) := by unfold OB at ho; rwa [hl] at ho
  rcases ho'.2 with ⟨_, h0⟩ | ⟨g, cap, cur, hv, hg, _⟩
  · omega
  injection hv with hA _ hcap
  subst hA
  obtain ⟨hc, hf⟩ := own_at ho' (k : Int) (by omega) (by omega)
  rw [Int.toNat_natCast] at hc hf
  obtain ⟨A', c', e, hr⟩ := ho.reads
  injection e with e1 e2 e3
  obtain ⟨ad, e, hz⟩ := C_byte hr (k := k) (by omega)
  rw [← e1] at e
  injection e with e
  subst e
  rw [Addr.add_lit, Nat.zero_add] at hz
  refine ⟨g, zs.getD k 0, rfl, hg, (hb.getD k).1, (hb.getD k).2, hz, hf, fun x hx => ⟨zs.set k x, by simp [hl], fun y hy => ?_, ?_⟩⟩
  · rcases List.mem_or_eq_of_mem_set hy with h | h
    · exact hb y h
    · rw [h]; exact hx
  · have hp := own_store ho' (k : Int) x
    rw [Int.toNat_natCast] at hp
    have := hp.1
    unfold OB
    rw [List.length_set, hl]
    exact this
theorem xor_ff {z : Int} (h0 : 0 ≤ z) (h : z < 256) : ∃ y, Go.bits .xor .u8 z 255 = y ∧ Byte y := by
  refine ⟨_, u8_xor h0 h (by decide) (by decide), by omega, ?_⟩
  have := xor_byte (a := z.toNat) (b := (255 : Int).toNat) (by omega) (by decide)
  omega
theorem EX.reex {base : Nat} {W : World} {a : Nat} {s : Es} {ex ex' : Nat → Prop} (h : EX base W a s ex) (he : ∀ k, ex' k → k < W.heap.size → ex k) : EX base W a s ex' := by
  obtain ⟨F, h1, h4⟩ := h
  exact ⟨F, h1, fun k hk => ⟨(h4 k hk).1, (h4 k hk).2.1, fun e => (h4 k hk).2.2 (he k e (h4 k hk).2.1)⟩⟩
theorem KX.sub {base : Nat} {W W' : World} {ex ex' : Nat → Prop} (h : KX base W ex W') (hs : ∀ k, ex' k → ex k) : KX base W ex' W' := ⟨h.below, fun k a b => h.block k (hs k a) b⟩
/-- an end and the document's, which share nothing; X: what is neither's -/
def TwoE (base : Nat) (W : World) (a : Nat) (s : Es) (x : Nat) (u : Es) (X : Nat → Prop) : Prop :=
  ∃ H : Nat → Prop, EX base W a s (fun k => H k ∨ X k) ∧ REnd W x u H ∧ (∀ k, H k → base ≤ k ∧ k < W.heap.size ∧ ¬ X k) ∧ (∀ k, X k → k < W.heap.size) ∧ base ≤ W.heap.size
theorem TwoE.below {base : Nat} {W W' : World} {a x : Nat} {s u : Es} {X X' : Nat → Prop} (h : TwoE base W a s x u X) (hb : Below W.heap.size W W') (hX : ∀ k, X' k → W.heap.size ≤ k ∨ X k) (hX' : ∀ k, X' k → k < W'.heap.size) : TwoE base W' a s x u X' := by
  obtain ⟨H, h1, h2, h3, h4, h5⟩ := h
  have hs := hb.size
  exact ⟨H, (h1.reex (ex' := fun k => H k ∨ X' k) (fun k a b => a.elim .inl (fun a => (hX k a).elim (fun c => by omega) .inr))).below hb, h2.below hb, fun k a => ⟨(h3 k a).1, Nat.lt_of_lt_of_le (h3 k a).2.1 hs, fun c => (hX k c).elim (fun d => by have := (h3 k a).2.1; omega) (h3 k a).2.2⟩, hX', Nat.le_trans h5 hs⟩
/-- a store to what is neither's -/
theorem TwoE.poke {base : Nat} {W W' : World} {a x : Nat} {s u : Es} {X : Nat → Prop} (h : TwoE base W a s x u X) (hs : W.heap.size ≤ W'.heap.size) (hb : ∀ k, ¬ X k → k < W.heap.size → W'.heap[k]? = W.heap[k]?) : TwoE base W' a s x u X := by
  obtain ⟨H, h1, h2, h3, h4, h5⟩ := h
  exact ⟨H, h1.step hs (fun k n l => hb k (fun c => n (.inr c)) l), h2.step (fun k c l => hb k (h3 k c).2.2 l), fun k c => ⟨(h3 k c).1, Nat.lt_of_lt_of_le (h3 k c).2.1 hs, (h3 k c).2.2⟩, fun k c => Nat.lt_of_lt_of_le (h4 k c) hs, Nat.le_trans h5 hs⟩
theorem TwoE.fst {base : Nat} {W : World} {a x : Nat} {s u : Es} {X : Nat → Prop} (h : TwoE base W a s x u X) : ∃ F, EndAt W a s F := by
  obtain ⟨H, ⟨F, h1, _⟩, _⟩ := h
  exact ⟨F, h1⟩
theorem TwoE.snd {base : Nat} {W : World} {a x : Nat} {s u : Es} {X : Nat → Prop} (h : TwoE base W a s x u X) : ∃ F, REnd W x u F := by
  obtain ⟨H, _, h2, _⟩ := h
  exact ⟨H, h2⟩
theorem TwoE.put {base : Nat} {W : World} {a x : Nat} {s s' u : Es} {n : Int} {X : Nat → Prop} {f : Nat} {args : Array Value} (h : TwoE base W a s x u X) (hc : ∀ F, EndAt W a s F → Calls Try.prog f args W (RetE W a F s' n)) :
    Calls Try.prog f args W (fun e W' => e = .returned (.int .i64 n) ∧ TwoE base W' a s' x u X ∧ KX base W X W') := by
  obtain ⟨H, h1, h2, h3, h4, h5⟩ := h
  refine (h1.put (fun k c => c.elim (fun c => (h3 k c).2.1) (h4 k)) h5 hc).mono ?_
  rintro e W' ⟨rfl, he, hk⟩
  have hs := hk.below.size
  exact ⟨rfl, ⟨H, he, h2.step (fun k c l => hk.block k (.inl c) l), fun k c => ⟨(h3 k c).1, Nat.lt_of_lt_of_le (h3 k c).2.1 hs, (h3 k c).2.2⟩, fun k c => Nat.lt_of_lt_of_le (h4 k c) hs, Nat.le_trans h5 hs⟩, hk.sub (fun k c => .inr c)⟩
theorem TwoE.on {base : Nat} {W : World} {a x : Nat} {s u : Es} {r : Es × List Int × Int} {X : Nat → Prop} {f : Nat} {args : Array Value} (h : TwoE base W a s x u X) (hc : ∀ F, EndAt W a s F → (∀ k, F k → base ≤ k) → Calls Try.prog f args W (RetOn W a F r)) :
    Calls Try.prog f args W (fun e W' => ∃ A d, e = .returned (.tuple #[.slice A r.2.1.length d, .int .i64 r.2.2]) ∧ OB W' W.heap.size (.slice A r.2.1.length d) r.2.1 ∧ TwoE base W' a r.1 x u X ∧ KX base W X W') := by
  obtain ⟨H, h1, h2, h3, h4, h5⟩ := h
  refine (h1.on h5 (fun F hF hb => hc F hF (fun k c => (hb k c).1))).mono ?_
  rintro e W' ⟨A, d, rfl, ho, he, hk⟩
  have hs := hk.below.size
  exact ⟨A, d, rfl, ho, ⟨H, he, h2.step (fun k c l => hk.block k (.inl c) l), fun k c => ⟨(h3 k c).1, Nat.lt_of_lt_of_le (h3 k c).2.1 hs, (h3 k c).2.2⟩, fun k c => Nat.lt_of_lt_of_le (h4 k c) hs, Nat.le_trans h5 hs⟩, hk.sub (fun k c => .inr c)⟩
theorem TwoE.ref_close {base : Nat} {W W' : World} {a x : Nat} {s u' : Es} {X H : Nat → Prop} (h1 : EX base W a s (fun k => H k ∨ X k)) (h3 : ∀ k, H k → base ≤ k ∧ k < W.heap.size ∧ ¬ X k) (h4 : ∀ k, X k → k < W.heap.size) (h5 : base ≤ W.heap.size) (ht : REnd W' x u' (New W H)) (hk : Kept W H W') : TwoE base W' a s x u' X ∧ KX base W X W' := by
  have hs := hk.size
  refine ⟨⟨fun k => New W H k ∧ k < W'.heap.size, ?_, ht.mono (fun k c d => ⟨c, d⟩), ?_, fun k c => Nat.lt_of_lt_of_le (h4 k c) hs, Nat.le_trans h5 hs⟩, KX.of_kept hk h5 (fun k c => ⟨(h3 k c).1, (h3 k c).2.2⟩)⟩
  · refine (h1.reex (ex' := fun k => (New W H k ∧ k < W'.heap.size) ∨ X k) ?_).step hs (fun k c d => hk.block k d (fun e => c (.inl ⟨.inl e, Nat.lt_of_lt_of_le d hs⟩)))
    rintro k (⟨c | c, _⟩ | c) d
    · exact .inl c
    · have c' : W.heap.size ≤ k := c
      omega
    · exact .inr c
  · rintro k ⟨c | c, d⟩
    · exact ⟨(h3 k c).1, d, (h3 k c).2.2⟩
    · have c' : W.heap.size ≤ k := c
      exact ⟨by omega, d, fun e => by have := h4 k e; omega⟩
theorem TwoE.rput {base : Nat} {W : World} {a x : Nat} {s u u' : Es} {n : Int} {X : Nat → Prop} {f : Nat} {args : Array Value} (h : TwoE base W a s x u X) (hc : ∀ F, REnd W x u F → Calls Try.prog f args W (RetD W x F u' n)) :
    Calls Try.prog f args W (fun e W' => e = .returned (.int .i64 n) ∧ TwoE base W' a s x u' X ∧ KX base W X W') := by
  obtain ⟨H, h1, h2, h3, h4, h5⟩ := h
  refine (hc H h2).mono ?_
  rintro e W' ⟨rfl, ht, hk⟩
  exact ⟨rfl, TwoE.ref_close h1 h3 h4 h5 ht hk⟩
theorem TwoE.ron {base : Nat} {W : World} {a x : Nat} {s u : Es} {r : Es × List Int × Int} {X : Nat → Prop} {f : Nat} {args : Array Value} (h : TwoE base W a s x u X) (hc : ∀ F, REnd W x u F → (∀ k, F k → base ≤ k) → Calls Try.prog f args W (RetDn W x F r)) :
    Calls Try.prog f args W (fun e W' => ∃ A d, e = .returned (.tuple #[.slice A r.2.1.length d, .int .i64 r.2.2]) ∧ OB W' W.heap.size (.slice A r.2.1.length d) r.2.1 ∧ TwoE base W' a s x r.1 X ∧ KX base W X W') := by
  obtain ⟨H, h1, h2, h3, h4, h5⟩ := h
  refine (hc H h2 (fun k c => (h3 k c).1)).mono ?_
  rintro e W' ⟨A, d, rfl, ho, ht, hk⟩
  exact ⟨A, d, rfl, ho, TwoE.ref_close h1 h3 h4 h5 ht hk⟩
abbrev OpE := Int × List Int × FrT
abbrev eopK : Kd OpE := Kd.pair (Kd.int .i64) (Kd.pair (Kd.slice 5 (Kd.int .u8)) frameK)
def OpEG (o : OpE) : Prop := (Lit.int .i64 o.1).wf = true ∧ ((∀ x ∈ o.2.1, (Lit.int .u8 x).wf = true) ∧ o.2.1.length * Try.prog.bytesOf 5 ≤ reachBytes) ∧ FrG o.2.2
section
variable {H : Type} {enc : TypeId × Value → H} {w : World} {base : Nat} {spare : Nat → Bool} {held : Bool}
theorem eopRd : Rd enc Try.prog w base spare held 53 eopK OpEG :=
  Rd.struct (ts := [3, 38, 42]) Try.underlying53 (by rfl) (by kernel_rfl) (by kernel_rfl) (RdL.cons (Rd.int Try.underlying3 (by kernel_rfl)) (RdL.cons bytesRd (RdL.one frameRd)))
theorem eopsRd : Rd enc Try.prog w base spare held 46 (Kd.slice 53 eopK) (fun xs => (∀ x ∈ xs, OpEG x) ∧ xs.length * Try.prog.bytesOf 53 ≤ reachBytes) := Rd.slice Try.underlying46 (by kernel_rfl) eopRd
end
def frOf (o : FrT) : FR := ⟨o.1, o.2.1, o.2.2.1, o.2.2.2⟩
theorem eop_at {W : World} {A : Option Addr} {n : Nat} {l : List OpE} (h : eopK.C W A n l) {k : Nat} (hk : k < n) (z : OpE) :
    ∃ ad B c E d, A = some ad ∧ W.cell? (ad.add (k * 6)) = some (.int .i64 (l.getD k z).1) ∧ W.cell? ⟨(ad.add (k * 6)).block, (ad.add (k * 6)).off + 1, none⟩ = some (.slice B (l.getD k z).2.1.length c) ∧
      W.cell? ⟨(ad.add (k * 6)).block, (ad.add (k * 6)).off + 2, none⟩ = some (.int .u32 (frOf (l.getD k z).2.2).s) ∧ W.cell? ⟨(ad.add (k * 6)).block, (ad.add (k * 6)).off + 3, none⟩ = some (.int .i64 (frOf (l.getD k z).2.2).q) ∧ W.cell? ⟨(ad.add (k * 6)).block, (ad.add (k * 6)).off + 4, none⟩ = some (.int .i64 (frOf (l.getD k z).2.2).k) ∧ W.cell? ⟨(ad.add (k * 6)).block, (ad.add (k * 6)).off + 5, none⟩ = some (.slice E (frOf (l.getD k z).2.2).d.length d) ∧
      Kd.C (Kd.int .u8) W B (l.getD k z).2.1.length (l.getD k z).2.1 ∧ Kd.C (Kd.int .u8) W E (frOf (l.getD k z).2.2).d.length (frOf (l.getD k z).2.2).d := by
  obtain ⟨ad, c, e, hs, hK, hcell⟩ := Kd.C_get h z (k : Int) (by omega) (by omega)
  simp only [Int.toNat_natCast] at hK hcell
  obtain ⟨c0, _, rfl, h0, c2, _, rfl, ⟨B, cc, rfl, hl, hr⟩, c4, _, rfl, h4, c5, _, rfl, h5, c6, _, rfl, h6, E, ec, rfl, hl2, hr2⟩ := hK
  have h0' : c0 = [.int .i64 (l.getD k z).1] := h0
  have h4' : c4 = [.int .u32 (l.getD k z).2.2.1] := h4
  have h5' : c5 = [.int .i64 (l.getD k z).2.2.2.1] := h5
  have h6' : c6 = [.int .i64 (l.getD k z).2.2.2.2.1] := h6
  subst h0' h4' h5' h6'
  exact ⟨ad, B, cc, E, ec, e, hcell 0 _ rfl, (by rw [← add_lit9]; exact hcell 1 _ rfl), (by rw [← add_lit9]; exact hcell 2 _ rfl), (by rw [← add_lit9]; exact hcell 3 _ rfl), (by rw [← add_lit9]; exact hcell 4 _ rfl), (by rw [← add_lit9]; exact hcell 5 _ rfl), hr, hr2⟩
theorem six_cells {W : World} {b : Nat} {x y z u v s : Value} {t : TypeId} (h : W.heap[b]? = some (.cells #[x, y, z, u, v, s] t (0, 0))) :
    W.cell? ⟨b, 0, none⟩ = some x ∧ W.cell? ⟨b, 1, none⟩ = some y ∧ W.cell? ⟨b, 2, none⟩ = some z ∧ W.cell? ⟨b, 3, none⟩ = some u ∧ W.cell? ⟨b, 4, none⟩ = some v ∧ W.cell? ⟨b, 5, none⟩ = some s := by
  refine ⟨?_, ?_, ?_, ?_, ?_, ?_⟩ <;> simp [World.cell?, h]
end Go.Proofs.Ytcpkfkcemaihfaa.Oct
