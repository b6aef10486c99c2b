import Derived.Test.YtcpkfkcemaihfaaSessB
/- On. -/
namespace Go.Proofs.Ytcpkfkcemaihfaa.Oct
open Go.RowKit Go.Proofs.YtcpkfkcemaihfaaW.PrintWords Go.Proofs.Ytcpkfkcemaihfaa.M
set_option linter.unusedVariables false
set_option linter.unusedSimpArgs false
theorem info_txt : (Try.prog.info? 38).map (fun i => (i.zero, i.size, i.bytes)) = some (some (.slice none 0 0), 1, 24) := by kernel_rfl
def RetOn (W : World) (p : Nat) (F : Nat → Prop) (r : Es × List Int × Int) (e : Ending) (W' : World) : Prop :=
  ∃ A d, e = .returned (.tuple #[.slice A r.2.1.length d, .int .i64 r.2.2]) ∧ OB W' W.heap.size (.slice A r.2.1.length d) r.2.1 ∧ EndAt W' p r.1 F ∧ Kept W F W'
theorem four_at {W : World} {b : Nat} {x y z u : Value} {t : TypeId} (h : W.heap[b]? = some (.cells #[x, y, z, u] t (0, 0))) :
    W.cell? ⟨b, 0, none⟩ = some x ∧ W.cell? ⟨b, 1, none⟩ = some y ∧ W.cell? ⟨b, 2, none⟩ = some z ∧ W.cell? ⟨b, 3, none⟩ = some u := by
  refine ⟨?_, ?_, ?_, ?_⟩ <;> simp [World.cell?, h]
theorem reton_nil {w wx : World} {p : Nat} {F : Nat → Prop} {s t : Es} {f : FR} {n : Int} (hv : s.on f = (t, [], n)) (h : EndAt wx p t F) (hk : Kept w F wx) : RetOn w p F (s.on f) (.returned (.tuple #[.slice none 0 0, .int .i64 n])) wx := by
  rw [hv]
  exact ⟨none, 0, rfl, OB.nil _ _, h, hk⟩
/-- an end whose field is stored -/
theorem end_set {wx : World} {p : Nat} {t : Es} {j : Nat} {x : Value} {v : Value} {vs : List Value} (hh : wx.heap[p]? = some (.cells #[.int .u32 t.ses, .int .i64 t.win, v, .int .i64 t.first, .int .i64 t.exp] 61 (0, 0))) (ho : OwnAt wx 0 38 1 v t.q.length vs) (he : Tls wx vs t.q) : ∀ k, (v.ownBlock = some k ∨ ∃ u ∈ vs, u.ownBlock = some k) → (wx.setCell ⟨p, j, none⟩ x).heap[k]? = wx.heap[k]? := by
  intro k hk
  refine Below.heap_setCell wx ⟨p, j, none⟩ x k (fun e => ?_)
  rcases hk with h | ⟨u, hu, h⟩
  · exact ho.ne h hh (by decide) e
  · obtain ⟨l, hq⟩ := he.mem hu
    exact OwnAt.ne hq h hh (by decide) e
theorem acked_close {wx : World} {p : Nat} {F : Nat → Prop} {s : Es} {k : Int} (h : EndAt wx p s F) (hgt : (s.first : Int) < k) (hle : k ≤ (s.first : Int) + s.q.length) {A : Option Addr} {n d G : Nat} (hc : wx.cell? ⟨p, 2, none⟩ = some (.slice A n d)) (hn : n = s.q.length) (hG : (G : Int) = k - s.first) :
    EndAt ((wx.setCell ⟨p, 2, none⟩ (.slice (if d = G then A else A.map (·.add (G * 1))) (n - G) (d - G))).setCell ⟨p, 3, none⟩ (.int .i64 k)) p (s.acked k) F ∧ wx.grownBy ((wx.setCell ⟨p, 2, none⟩ (.slice (if d = G then A else A.map (·.add (G * 1))) (n - G) (d - G))).setCell ⟨p, 3, none⟩ (.int .i64 k)) (some p) := by
  subst hn
  obtain ⟨v, vs, hh, ho, he, hp, hkf, hu, hok⟩ := h
  have hv : v = .slice A s.q.length d := by
    have := (five_cells hh).1.2.2.1
    rw [hc] at this
    injection this with this
    exact this.symm
  subst hv
  have hok2 := Es.acked_ok hok hle
  have e : s.acked k = { s with q := s.q.drop G, first := k.toNat } := by
    unfold Es.acked
    rw [if_pos hgt, show (k - (s.first : Int)).toNat = G by omega]
  rw [e] at hok2 ⊢
  rcases ho.2 with ⟨_, h0⟩ | ⟨g, off, cap, cur, e1, hbg, hg, _⟩
  · omega
  injection e1 with e1 _ e3
  subst e1 e3
  have hr := ho.rest (k := G) (by omega)
  have hA : (if d = G then some (⟨g, off, none⟩ : Addr) else (some (⟨g, off, none⟩ : Addr)).map (·.add (G * 1))) = some ⟨g, if G = d then off else off + G, none⟩ := by
    by_cases h : d = G
    · rw [if_pos h, if_pos h.symm]
    · rw [if_neg h, if_neg (fun e => h e.symm), Nat.mul_one]
      simp [Addr.add_lit]
  rw [hA]
  have hk : ((k.toNat : Nat) : Int) = k := by omega
  have hgp : g ≠ p := ho.ne (k := g) rfl hh (by decide)
  have hmv : ∀ k', k' ≠ p → ((wx.setCell ⟨p, 2, none⟩ (.slice (some ⟨g, if G = d then off else off + G, none⟩) (s.q.length - G) (d - G))).setCell ⟨p, 3, none⟩ (.int .i64 k)).heap[k']? = wx.heap[k']? := fun k' hne => by
    rw [Below.heap_setCell _ ⟨p, 3, none⟩ _ k' hne, Below.heap_setCell _ ⟨p, 2, none⟩ _ k' hne]
  refine ⟨⟨.slice (some ⟨g, if G = d then off else off + G, none⟩) (s.q.length - G) (d - G), vs.drop G, ?_, ?_, (he.drop G).move (fun u hu' k' e' => hmv k' (fun e2 => ?_)), hp, fun k' e' => hkf k' (by rw [← e']; rfl), fun u hu' k' e' => hu u (List.mem_of_mem_drop hu') k' e', hok2⟩, World.grownBy.trans (grown_set wx p 2 _) (grown_set _ p 3 _)⟩
  · rw [heap_set _ (heap_set _ hh)]
    dsimp only
    rw [hk]
    rfl
  · dsimp only
    rw [List.length_drop]
    exact hr.move (fun k' e' => by
      injection e' with e'
      dsimp only at e'
      subst e'
      exact hmv _ hgp)
  · obtain ⟨l, hq⟩ := he.mem (List.mem_of_mem_drop hu')
    exact OwnAt.ne hq e' hh (by decide) e2
theorem came_close {wx : World} {p : Nat} {F : Nat → Prop} {t : Es} (h : EndAt wx p t F) (hlt : t.exp < 65535) {n : Int} (hn : n = (t.exp : Int) + 1) : EndAt (wx.setCell ⟨p, 4, none⟩ (.int .i64 n)) p { t with exp := t.exp + 1 } F := by
  obtain ⟨v, vs, hh, ho, he, hp, hkf, hu, hok⟩ := h
  have hmv := end_set (j := 4) (x := .int .i64 n) hh ho he
  obtain ⟨h1, h2, h3, h4, h5, h6⟩ := hok
  refine ⟨v, vs, ?_, ho.move (fun k e => hmv k (.inl e)), he.move (fun u hu k e => hmv k (.inr ⟨u, hu, e⟩)), hp, hkf, hu, h1, h2, h3, h4, h5, by show t.exp + 1 ≤ 65535; omega⟩
  rw [heap_set _ hh, hn]
  dsimp only
  rw [show ((t.exp + 1 : Nat) : Int) = (t.exp : Int) + 1 by omega]
  rfl
set_option maxRecDepth 20000 in
set_option maxHeartbeats 16000000 in
theorem eon_calls (w : World) (p : Nat) (s : Es) (F : Nat → Prop) (f : FR) (B : Option Addr) (c : Nat) (h : EndAt w p s F) (hy : Kd.C (Kd.int .u8) w B f.d.length f.d) (hf : f.ok) (hlen : f.d.length ≤ 140737488355328) (hyk : ∀ W, Kept w F W → Kd.C (Kd.int .u8) W B f.d.length f.d) :
    Calls Try.prog 13 #[.pointer (some ⟨p, 0, none⟩), .agg #[.int .u32 f.s, .int .i64 f.q, .int .i64 f.k, .slice B f.d.length c]] w (RetOn w p F (s.on f)) := by
  have HT := Aside0.mk h
  have HY := Aside0.mk hy
  have HFL := Aside0.mk hlen
  have HYK := Aside0.mk hyk
  clear hlen hyk
  have hyl : f.d.length ≤ 9223372036854775807 := hy.2.1
  obtain ⟨_, _, hkb, _⟩ := hf
  have hok := h.is.2.2
  have hl : s.q.length ≤ 64 := hok.2.2.1
  have hfl : s.first + s.q.length ≤ 65535 := hok.2.2.2.2.1
  have hel : s.exp ≤ 65535 := hok.2.2.2.2.2
  obtain ⟨w0, hw0⟩ : ∃ w0, w0 = w.alloc (.cells #[.int .u32 f.s, .int .i64 f.q, .int .i64 f.k, .slice B f.d.length c] 42) := ⟨_, rfl⟩
  have HW0 := Aside0.mk hw0
  have HB0 : Aside0 (Below w.heap.size w w0) := ⟨by rw [hw0]; exact below_alloc (Below.refl _ _) _⟩
  have HF0 : Aside0 (w0.heap[w.heap.size]? = some (.cells #[.int .u32 f.s, .int .i64 f.q, .int .i64 f.k, .slice B f.d.length c] 42 (0, 0))) := ⟨by rw [hw0]; exact heap_alloc_new w _⟩
  have HPL : Aside0 (p < w.heap.size) := ⟨h.is.1⟩
  have HT0 := Aside0.mk (h.below HB0.out)
  obtain ⟨A, d, hd, hh⟩ := HT0.out.cells
  obtain ⟨b, hb⟩ : ∃ b, b = w.heap.size := ⟨_, rfl⟩
  have HBB := Aside0.mk hb
  rw [← hb] at HF0
  have HPB : Aside0 (p ≠ b) := ⟨by have := HPL.out; omega⟩
  obtain ⟨n, hn⟩ : ∃ n, n = s.q.length := ⟨_, rfl⟩
  obtain ⟨m, hm⟩ : ∃ m, m = f.d.length := ⟨_, rfl⟩
  have HN := Aside0.mk hn
  have HM := Aside0.mk hm
  have HH0 : Aside0 (w0.heap[p]? = some (.cells #[.int .u32 s.ses, .int .i64 s.win, .slice A n d, .int .i64 s.first, .int .i64 s.exp] 61 (0, 0))) := ⟨by rw [hn]; exact hh⟩
  rw [← hm] at HF0 HW0 hyl
  rw [← hn] at hl hfl hd
  obtain ⟨M, hM⟩ : ∃ M, M = s.first + n := ⟨_, rfl⟩
  have g1 : (s.first : Int) + (n : Int) = (M : Int) := by omega
  have g2 : IntKind.i64.wrap ((s.first : Int) + (n : Int)) = (M : Int) := by rw [IntWalk.i64_in _ (by omega)]; omega
  have g3 : IntKind.i64.wrap (M : Int) = (M : Int) := IntWalk.i64_in _ (by omega)
  have HKD : Aside0 (∀ W j, Below w0.heap.size w0 W → Below w0.heap.size w0 (W.drewN j)) := ⟨fun W j hW => pw_below_drewN hW _⟩
  have HKP : Aside0 (∀ W, Below w0.heap.size w0 W → EndAt W p s F ∧ Kept w F W) := ⟨fun W hW => ⟨HT0.out.below hW, Kept.of_below F (HB0.out.trans (hW.mono HB0.out.size))⟩⟩
  obtain ⟨⟨c0, c1, c2, c3, c4⟩, f0, f1, f2, f3, f4⟩ := five_cells HH0.out
  obtain ⟨d0, d1, d2, d3⟩ := four_at HF0.out
  have HONU : Aside0 (s.on f = if f.s ≠ s.ses then (s, [], 90) else if f.k < 0 ∨ (s.first : Int) + s.q.length < f.k then (s, [], 91) else if f.d.length = 0 ∨ f.q ≠ s.exp then (s.acked f.k, [], 0) else if s.exp = 65535 then (s.acked f.k, [], 91) else ({ s.acked f.k with exp := s.exp + 1 }, f.d, 0)) := ⟨rfl⟩
  have HK9 : Aside0 (∀ W, Below w0.heap.size w0 W → W.heap[p]? = some (.cells #[.int .u32 s.ses, .int .i64 s.win, .slice A n d, .int .i64 s.first, .int .i64 s.exp] 61 (0, 0)) ∧ W.heap[b]? = some (.cells #[.int .u32 f.s, .int .i64 f.q, .int .i64 f.k, .slice B m c] 42 (0, 0))) := ⟨fun W hW => ⟨blk_keep HH0.out hW, blk_keep HF0.out hW⟩⟩
  rw [← hm]
  rw [← hn] at HONU
  rw [g1, ← hm] at HONU
  clear h hy hok hh hw0 hb hn hm hM
  by_cases h1 : f.s = s.ses
  · have b0 : (f.s != s.ses) = false := by simp [h1]
    have HON1 : Aside0 (s.on f = if f.k < 0 ∨ (M : Int) < f.k then (s, [], 91) else if m = 0 ∨ f.q ≠ s.exp then (s.acked f.k, [], 0) else if s.exp = 65535 then (s.acked f.k, [], 91) else ({ s.acked f.k with exp := s.exp + 1 }, f.d, 0)) := ⟨by rw [HONU.out, if_neg (fun hne => hne h1)]⟩
    clear h1
    have hkc : f.k < 0 ∨ (¬ f.k < 0 ∧ (M : Int) < f.k) ∨ (¬ f.k < 0 ∧ ¬ (M : Int) < f.k) := by omega
    rcases hkc with h2 | ⟨h2, h3⟩ | ⟨h2, h3⟩
    · have HV : Aside0 (s.on f = (s, [], 91)) := ⟨by rw [HON1.out, if_pos (.inl h2)]⟩
      clear HON1 HONU
      go_enter Try.func13, Try.ntmps13
      go_wp2_with fail
      rw [← HW0.out]
      refine (emade_calls _ p s F HT0.out).mono ?_
      rintro e w1 ⟨rfl, rfl⟩
      rw [← HBB.out]
      go_wp2_with fail
      go_quiet (fail)
      go_wp2_with fail
      go_quiet (fail)
      go_wp2_with fail
      go_ret2
      exact reton_nil HV.out (HKP.out _ (HKD.out _ _ (HKD.out _ _ (Below.refl _ _)))).1 (HKP.out _ (HKD.out _ _ (HKD.out _ _ (Below.refl _ _)))).2
    · have HV : Aside0 (s.on f = (s, [], 91)) := ⟨by rw [HON1.out, if_pos (.inr h3)]⟩
      clear HON1 HONU
      go_enter Try.func13, Try.ntmps13
      go_wp2_with fail
      rw [← HW0.out]
      refine (emade_calls _ p s F HT0.out).mono ?_
      rintro e w1 ⟨rfl, rfl⟩
      rw [← HBB.out]
      go_wp2_with fail
      go_quiet (fail)
      go_wp2_with fail
      go_quiet (fail)
      go_wp2_with fail
      go_ret2
      exact reton_nil HV.out (HKP.out _ (HKD.out _ _ (HKD.out _ _ (Below.refl _ _)))).1 (HKP.out _ (HKD.out _ _ (HKD.out _ _ (Below.refl _ _)))).2
    · have HON2 : Aside0 (s.on f = if m = 0 ∨ f.q ≠ s.exp then (s.acked f.k, [], 0) else if s.exp = 65535 then (s.acked f.k, [], 91) else ({ s.acked f.k with exp := s.exp + 1 }, f.d, 0)) := ⟨by rw [HON1.out, if_neg (by omega)]⟩
      obtain ⟨G0, hG0⟩ : ∃ G0 : Int, G0 = f.k - s.first := ⟨_, rfl⟩
      have j1 : f.k - (s.first : Int) = G0 := hG0.symm
      have j2 : IntKind.i64.wrap (f.k - (s.first : Int)) = G0 := by rw [IntWalk.i64_in _ (by omega)]; omega
      have j3 : IntKind.i64.wrap G0 = G0 := IntWalk.i64_in _ (by omega)
      have HTE : Aside0 ((s.acked f.k).exp = s.exp) := ⟨Es.acked_exp _ _⟩
      by_cases hg : 0 < G0
      · obtain ⟨G, rfl⟩ := Int.eq_ofNat_of_zero_le (show 0 ≤ G0 by omega)
        obtain ⟨i8, hi8, _, hz8, _⟩ := info_parts info_txt
        have hcut := cut_from (P := Try.prog) 23 38 .i64 Try.underlying23 hi8 1 hz8 A n d (G : Int) (by omega) (by omega)
        simp only [Int.toNat_natCast] at hcut
        have HAC : Aside0 (∀ W, Below w0.heap.size w0 W → EndAt ((W.setCell ⟨p, 2, none⟩ (.slice (if d = G then A else A.map (·.add (G * 1))) (n - G) (d - G))).setCell ⟨p, 3, none⟩ (.int .i64 f.k)) p (s.acked f.k) F ∧ W.grownBy ((W.setCell ⟨p, 2, none⟩ (.slice (if d = G then A else A.map (·.add (G * 1))) (n - G) (d - G))).setCell ⟨p, 3, none⟩ (.int .i64 f.k)) (some p)) := ⟨fun W hW => acked_close (HT0.out.below hW) (by omega) (by rw [← HN.out]; omega) (five_cells (HK9.out W hW).1).1.2.2.1 HN.out hG0⟩
        obtain ⟨A', hA'⟩ : ∃ A', A' = (if d = G then A else A.map (·.add (G * 1))) := ⟨_, rfl⟩
        obtain ⟨n', hn'⟩ : ∃ n', n' = n - G := ⟨_, rfl⟩
        obtain ⟨d', hd'⟩ : ∃ d', d' = d - G := ⟨_, rfl⟩
        rw [← hA', ← hn', ← hd'] at HAC hcut
        clear hi8 hz8 hA' hn' hd' hG0 hkb
        go_enter Try.func13, Try.ntmps13
        go_wp2_with fail
        rw [← HW0.out]
        refine (emade_calls _ p s F HT0.out).mono ?_
        rintro e w1 ⟨rfl, hw1⟩
        have hw1 := hw1.symm
        subst hw1
        rw [← HBB.out]
        have HBz : Aside0 (Below w0.heap.size w0 w0) := ⟨Below.refl _ _⟩
        go_wp2_with fail
        go_quiet (fail)
        obtain ⟨w1, hw1⟩ : ∃ wz, wz = w0.drewN nq := ⟨_, rfl⟩
        have HB1 : Aside0 (Below w0.heap.size w0 w1) := ⟨by rw [hw1]; exact HKD.out _ _ HBz.out⟩
        rw [← hw1]
        clear hw1 c0 c1 c2 c3 c4 f0 f1 f2 f3 f4 d0 d1 d2 d3
        obtain ⟨⟨c0, c1, c2, c3, c4⟩, f0, f1, f2, f3, f4⟩ := five_cells (HK9.out _ HB1.out).1
        obtain ⟨d0, d1, d2, d3⟩ := four_at (HK9.out _ HB1.out).2
        go_wp2_with fail
        go_quiet (fail)
        obtain ⟨w2, hw2⟩ : ∃ wz, wz = w1.drewN nq := ⟨_, rfl⟩
        have HB2 : Aside0 (Below w0.heap.size w0 w2) := ⟨by rw [hw2]; exact HKD.out _ _ HB1.out⟩
        rw [← hw2]
        clear hw2 c0 c1 c2 c3 c4 f0 f1 f2 f3 f4 d0 d1 d2 d3
        obtain ⟨⟨c0, c1, c2, c3, c4⟩, f0, f1, f2, f3, f4⟩ := five_cells (HK9.out _ HB2.out).1
        obtain ⟨d0, d1, d2, d3⟩ := four_at (HK9.out _ HB2.out).2
        go_wp2_with fail
        go_quiet (fail)
        obtain ⟨w3, hw3⟩ : ∃ wz, wz = w2.drewN nq := ⟨_, rfl⟩
        have HB3 : Aside0 (Below w0.heap.size w0 w3) := ⟨by rw [hw3]; exact HKD.out _ _ HB2.out⟩
        rw [← hw3]
        clear hw3 c0 c1 c2 c3 c4 f0 f1 f2 f3 f4 d0 d1 d2 d3
        obtain ⟨⟨c0, c1, c2, c3, c4⟩, f0, f1, f2, f3, f4⟩ := five_cells (HK9.out _ HB3.out).1
        obtain ⟨d0, d1, d2, d3⟩ := four_at (HK9.out _ HB3.out).2
        have e2 : (w3.setCell ⟨p, 2, none⟩ (.slice A' n' d')).cell? ⟨b, 2, none⟩ = some (.int .i64 f.k) := (World.cell?_of_block (by exact (grown_set w3 p 2 (.slice A' n' d')).block b (Array.getElem?_eq_some_iff.1 (HK9.out _ HB3.out).2).1 (fun e' => HPB.out (by injection e' with e'; exact e'.symm)))).trans d2
        go_wp2_with fail
        obtain ⟨hea, hga⟩ := HAC.out w3 HB3.out
        obtain ⟨wx, hwx⟩ : ∃ wx, wx = ((w3.setCell ⟨p, 2, none⟩ (.slice A' n' d')).setCell ⟨p, 3, none⟩ (.int .i64 f.k)) := ⟨_, rfl⟩
        rw [← hwx] at hea hga ⊢
        have HE := Aside0.mk hea
        have HKx : Aside0 (Kept w F wx) := ⟨(HKP.out w3 HB3.out).2.trans (Kept.of_grown (F := F) hga (fun k' e' => by injection e' with e'; subst e'; exact HT0.out.is.2.1)) (fun _ _ h => h)⟩
        have HFx : Aside0 (wx.heap[b]? = some (.cells #[.int .u32 f.s, .int .i64 f.q, .int .i64 f.k, .slice B m c] 42 (0, 0))) := ⟨(hga.block b (Array.getElem?_eq_some_iff.1 (HK9.out _ HB3.out).2).1 (fun e' => HPB.out (by injection e' with e'; exact e'.symm))).trans (HK9.out _ HB3.out).2⟩
        clear hea hga hwx e2 hcut c0 c1 c2 c3 c4 f0 f1 f2 f3 f4 d0 d1 d2 d3 g1 g2 g3 j1 j2 j3 h2 h3 hg hd hl hfl HAC HONU HON1
        obtain ⟨t, ht⟩ : ∃ t, t = s.acked f.k := ⟨_, rfl⟩
        rw [← ht] at HE HTE HON2
        clear ht
        have HON3 : Aside0 (s.on f = if m = 0 ∨ f.q ≠ t.exp then (t, [], 0) else if t.exp = 65535 then (t, [], 91) else ({ t with exp := t.exp + 1 }, f.d, 0)) := ⟨by rw [HON2.out, HTE.out]⟩
        have htel : t.exp ≤ 65535 := by rw [HTE.out]; exact hel
        clear HON2 HTE hel
        obtain ⟨A2, dd, _, hh2⟩ := HE.out.cells
        obtain ⟨⟨c0, c1, c2, c3, c4⟩, f0, f1, f2, f3, f4⟩ := five_cells hh2
        obtain ⟨d0, d1, d2, d3⟩ := four_at HFx.out
        have HN1 : Aside0 (∀ j, EndAt (wx.drewN j) p t F ∧ Kept w F (wx.drewN j) ∧ (wx.drewN j).heap[b]? = some (.cells #[.int .u32 f.s, .int .i64 f.q, .int .i64 f.k, .slice B m c] 42 (0, 0))) := ⟨fun j => ⟨HE.out.below (pw_below_drewN (Below.refl _ _) _), HKx.out.trans (Kept.of_below F (pw_below_drewN (Below.refl _ _) _)) (fun _ _ h => h), blk_keep HFx.out (pw_below_drewN (Below.refl _ _) _)⟩⟩
        clear hh2
        by_cases hm0 : m = 0
        · have HV : Aside0 (s.on f = (t, [], 0)) := ⟨by rw [HON3.out, if_pos (.inl hm0)]⟩
          have bm : ((m : Int) == 0) = true := by simp; omega
          clear hm0
          go_quiet (fail)
          have HE1 := Aside0.mk (HN1.out nq).1
          have HK1 := Aside0.mk (HN1.out nq).2.1
          go_wp2_with fail
          go_ret2
          exact reton_nil HV.out HE1.out HK1.out
        have bm : ((m : Int) == 0) = false := by simp; omega
        by_cases hq : f.q = t.exp
        · have bq : (f.q != (t.exp : Int)) = false := by simp [hq]
          have HON4 : Aside0 (s.on f = if t.exp = 65535 then (t, [], 91) else ({ t with exp := t.exp + 1 }, f.d, 0)) := ⟨by rw [HON3.out, if_neg (by rintro (h | h); exact hm0 h; exact h hq)]⟩
          clear hq hm0
          by_cases he : t.exp = 65535
          · have HV : Aside0 (s.on f = (t, [], 91)) := ⟨by rw [HON4.out, if_pos he]⟩
            have be : ((t.exp : Int) == 65535) = true := by simp; omega
            clear he htel
            go_quiet (fail)
            have HE1 := Aside0.mk (HN1.out nq).1
            have HK1 := Aside0.mk (HN1.out nq).2.1
            go_wp2_with fail
            go_ret2
            exact reton_nil HV.out HE1.out HK1.out
          · have HV : Aside0 (s.on f = ({ t with exp := t.exp + 1 }, f.d, 0)) := ⟨by rw [HON4.out, if_neg he]⟩
            have be : ((t.exp : Int) == 65535) = false := by simp; omega
            obtain ⟨x1, hx1⟩ : ∃ x1 : Int, x1 = (t.exp : Int) + 1 := ⟨_, rfl⟩
            have k1 : (t.exp : Int) + 1 = x1 := hx1.symm
            have k2 : IntKind.i64.wrap ((t.exp : Int) + 1) = x1 := by rw [IntWalk.i64_in _ (by omega)]; omega
            have k3 : IntKind.i64.wrap x1 = x1 := IntWalk.i64_in _ (by omega)
            have HEL : Aside0 (t.exp < 65535 ∧ x1 = (t.exp : Int) + 1) := ⟨by omega, hx1⟩
            clear he htel hx1
            go_quiet (fail)
            obtain ⟨wy, hwy⟩ : ∃ wz, wz = wx.drewN nq := ⟨_, rfl⟩
            have hN1 := HN1.out nq
            rw [← hwy] at hN1 ⊢
            have HEy := Aside0.mk hN1.1
            have HKy := Aside0.mk hN1.2.1
            have HFy := Aside0.mk hN1.2.2
            clear hwy hN1 c0 c1 c2 c3 c4 f0 f1 f2 f3 f4 d0 d1 d2 d3
            obtain ⟨A3, dd3, _, hh3⟩ := HEy.out.cells
            obtain ⟨⟨c0, c1, c2, c3, c4⟩, f0, f1, f2, f3, f4⟩ := five_cells hh3
            clear hh3
            have hgs := grown_set wy p 4 (.int .i64 x1)
            have HEz : Aside0 (EndAt (wy.setCell ⟨p, 4, none⟩ (.int .i64 x1)) p { t with exp := t.exp + 1 } F) := ⟨came_close HEy.out HEL.out.1 HEL.out.2⟩
            have HKz : Aside0 (Kept w F (wy.setCell ⟨p, 4, none⟩ (.int .i64 x1))) := ⟨HKy.out.trans (Kept.of_grown (F := F) hgs (fun k' e' => by injection e' with e'; subst e'; exact HT0.out.is.2.1)) (fun _ _ h => h)⟩
            have hfz : (wy.setCell ⟨p, 4, none⟩ (.int .i64 x1)).heap[b]? = some (.cells #[.int .u32 f.s, .int .i64 f.q, .int .i64 f.k, .slice B m c] 42 (0, 0)) := (hgs.block b (Array.getElem?_eq_some_iff.1 HFy.out).1 (fun e' => HPB.out (by injection e' with e'; exact e'.symm))).trans HFy.out
            obtain ⟨d0, d1, d2, d3⟩ := four_at hfz
            have HYz : Aside0 (Kd.C (Kd.int .u8) (wy.setCell ⟨p, 4, none⟩ (.int .i64 x1)) B f.d.length f.d) := ⟨HYK.out _ HKz.out⟩
            have HML : Aside0 (f.d.length ≤ 140737488355328) := HFL
            clear hgs hfz
            go_wp2_with fail
            rw [HM.out]
            refine (clone_calls _ B c f.d HYz.out HML.out).mono ?_
            rintro e wc ⟨u, rfl, hou, hbc⟩
            obtain ⟨Au, cu, rfl, _⟩ := hou.reads
            have HOU := Aside0.mk hou
            have HEc := Aside0.mk (HEz.out.below hbc)
            have HKc := Aside0.mk (HKz.out.trans (Kept.of_below F hbc) (fun _ _ h => h))
            have HLO : Aside0 (w.heap.size ≤ (wy.setCell ⟨p, 4, none⟩ (.int .i64 x1)).heap.size) := ⟨HKz.out.size⟩
            clear hou hbc
            go_wp2_with fail
            go_ret2
            rw [HV.out]
            exact ⟨Au, cu, rfl, HOU.out.lower HLO.out, HEc.out, HKc.out⟩
        · have bq : (f.q != (t.exp : Int)) = true := by simpa using hq
          have HV : Aside0 (s.on f = (t, [], 0)) := ⟨by rw [HON3.out, if_pos (.inr hq)]⟩
          clear hq hm0
          go_quiet (fail)
          have HE1 := Aside0.mk (HN1.out nq).1
          have HK1 := Aside0.mk (HN1.out nq).2.1
          go_wp2_with fail
          go_ret2
          exact reton_nil HV.out HE1.out HK1.out
      · clear hG0 hkb
        go_enter Try.func13, Try.ntmps13
        go_wp2_with fail
        rw [← HW0.out]
        refine (emade_calls _ p s F HT0.out).mono ?_
        rintro e w1 ⟨rfl, hw1⟩
        have hw1 := hw1.symm
        subst hw1
        rw [← HBB.out]
        have HBz : Aside0 (Below w0.heap.size w0 w0) := ⟨Below.refl _ _⟩
        go_wp2_with fail
        go_quiet (fail)
        obtain ⟨w1, hw1⟩ : ∃ wz, wz = w0.drewN nq := ⟨_, rfl⟩
        have HB1 : Aside0 (Below w0.heap.size w0 w1) := ⟨by rw [hw1]; exact HKD.out _ _ HBz.out⟩
        rw [← hw1]
        clear hw1 c0 c1 c2 c3 c4 f0 f1 f2 f3 f4 d0 d1 d2 d3
        obtain ⟨⟨c0, c1, c2, c3, c4⟩, f0, f1, f2, f3, f4⟩ := five_cells (HK9.out _ HB1.out).1
        obtain ⟨d0, d1, d2, d3⟩ := four_at (HK9.out _ HB1.out).2
        go_wp2_with fail
        go_quiet (fail)
        obtain ⟨w2, hw2⟩ : ∃ wz, wz = w1.drewN nq := ⟨_, rfl⟩
        have HB2 : Aside0 (Below w0.heap.size w0 w2) := ⟨by rw [hw2]; exact HKD.out _ _ HB1.out⟩
        rw [← hw2]
        clear hw2 c0 c1 c2 c3 c4 f0 f1 f2 f3 f4 d0 d1 d2 d3
        obtain ⟨⟨c0, c1, c2, c3, c4⟩, f0, f1, f2, f3, f4⟩ := five_cells (HK9.out _ HB2.out).1
        obtain ⟨d0, d1, d2, d3⟩ := four_at (HK9.out _ HB2.out).2
        go_wp2_with fail
        go_quiet (fail)
        obtain ⟨w3, hw3⟩ : ∃ wz, wz = w2.drewN nq := ⟨_, rfl⟩
        have HB3 : Aside0 (Below w0.heap.size w0 w3) := ⟨by rw [hw3]; exact HKD.out _ _ HB2.out⟩
        rw [← hw3]
        clear hw3 c0 c1 c2 c3 c4 f0 f1 f2 f3 f4 d0 d1 d2 d3
        obtain ⟨⟨c0, c1, c2, c3, c4⟩, f0, f1, f2, f3, f4⟩ := five_cells (HK9.out _ HB3.out).1
        obtain ⟨d0, d1, d2, d3⟩ := four_at (HK9.out _ HB3.out).2
        have HE : Aside0 (EndAt w3 p (s.acked f.k) F) := ⟨by rw [show s.acked f.k = s by unfold Es.acked; rw [if_neg (by omega)]]; exact (HKP.out w3 HB3.out).1⟩
        have HKx : Aside0 (Kept w F w3) := ⟨(HKP.out w3 HB3.out).2⟩
        have HFx : Aside0 (w3.heap[b]? = some (.cells #[.int .u32 f.s, .int .i64 f.q, .int .i64 f.k, .slice B m c] 42 (0, 0))) := ⟨(HK9.out _ HB3.out).2⟩
        obtain ⟨wx, hwx⟩ : ∃ wx, wx = w3 := ⟨_, rfl⟩
        go_wp2_with fail
        rw [← hwx] at HE HKx HFx ⊢
        clear hwx c0 c1 c2 c3 c4 f0 f1 f2 f3 f4 d0 d1 d2 d3 g1 g2 g3 j1 j2 j3 h2 h3 hg hd hl hfl HONU HON1
        obtain ⟨t, ht⟩ : ∃ t, t = s.acked f.k := ⟨_, rfl⟩
        rw [← ht] at HE HTE HON2
        clear ht
        have HON3 : Aside0 (s.on f = if m = 0 ∨ f.q ≠ t.exp then (t, [], 0) else if t.exp = 65535 then (t, [], 91) else ({ t with exp := t.exp + 1 }, f.d, 0)) := ⟨by rw [HON2.out, HTE.out]⟩
        have htel : t.exp ≤ 65535 := by rw [HTE.out]; exact hel
        clear HON2 HTE hel
        obtain ⟨A2, dd, _, hh2⟩ := HE.out.cells
        obtain ⟨⟨c0, c1, c2, c3, c4⟩, f0, f1, f2, f3, f4⟩ := five_cells hh2
        obtain ⟨d0, d1, d2, d3⟩ := four_at HFx.out
        have HN1 : Aside0 (∀ j, EndAt (wx.drewN j) p t F ∧ Kept w F (wx.drewN j) ∧ (wx.drewN j).heap[b]? = some (.cells #[.int .u32 f.s, .int .i64 f.q, .int .i64 f.k, .slice B m c] 42 (0, 0))) := ⟨fun j => ⟨HE.out.below (pw_below_drewN (Below.refl _ _) _), HKx.out.trans (Kept.of_below F (pw_below_drewN (Below.refl _ _) _)) (fun _ _ h => h), blk_keep HFx.out (pw_below_drewN (Below.refl _ _) _)⟩⟩
        clear hh2
        by_cases hm0 : m = 0
        · have HV : Aside0 (s.on f = (t, [], 0)) := ⟨by rw [HON3.out, if_pos (.inl hm0)]⟩
          have bm : ((m : Int) == 0) = true := by simp; omega
          clear hm0
          go_quiet (fail)
          have HE1 := Aside0.mk (HN1.out nq).1
          have HK1 := Aside0.mk (HN1.out nq).2.1
          go_wp2_with fail
          go_ret2
          exact reton_nil HV.out HE1.out HK1.out
        have bm : ((m : Int) == 0) = false := by simp; omega
        by_cases hq : f.q = t.exp
        · have bq : (f.q != (t.exp : Int)) = false := by simp [hq]
          have HON4 : Aside0 (s.on f = if t.exp = 65535 then (t, [], 91) else ({ t with exp := t.exp + 1 }, f.d, 0)) := ⟨by rw [HON3.out, if_neg (by rintro (h | h); exact hm0 h; exact h hq)]⟩
          clear hq hm0
          by_cases he : t.exp = 65535
          · have HV : Aside0 (s.on f = (t, [], 91)) := ⟨by rw [HON4.out, if_pos he]⟩
            have be : ((t.exp : Int) == 65535) = true := by simp; omega
            clear he htel
            go_quiet (fail)
            have HE1 := Aside0.mk (HN1.out nq).1
            have HK1 := Aside0.mk (HN1.out nq).2.1
            go_wp2_with fail
            go_ret2
            exact reton_nil HV.out HE1.out HK1.out
          · have HV : Aside0 (s.on f = ({ t with exp := t.exp + 1 }, f.d, 0)) := ⟨by rw [HON4.out, if_neg he]⟩
            have be : ((t.exp : Int) == 65535) = false := by simp; omega
            obtain ⟨x1, hx1⟩ : ∃ x1 : Int, x1 = (t.exp : Int) + 1 := ⟨_, rfl⟩
            have k1 : (t.exp : Int) + 1 = x1 := hx1.symm
            have k2 : IntKind.i64.wrap ((t.exp : Int) + 1) = x1 := by rw [IntWalk.i64_in _ (by omega)]; omega
            have k3 : IntKind.i64.wrap x1 = x1 := IntWalk.i64_in _ (by omega)
            have HEL : Aside0 (t.exp < 65535 ∧ x1 = (t.exp : Int) + 1) := ⟨by omega, hx1⟩
            clear he htel hx1
            go_quiet (fail)
            obtain ⟨wy, hwy⟩ : ∃ wz, wz = wx.drewN nq := ⟨_, rfl⟩
            have hN1 := HN1.out nq
            rw [← hwy] at hN1 ⊢
            have HEy := Aside0.mk hN1.1
            have HKy := Aside0.mk hN1.2.1
            have HFy := Aside0.mk hN1.2.2
            clear hwy hN1 c0 c1 c2 c3 c4 f0 f1 f2 f3 f4 d0 d1 d2 d3
            obtain ⟨A3, dd3, _, hh3⟩ := HEy.out.cells
            obtain ⟨⟨c0, c1, c2, c3, c4⟩, f0, f1, f2, f3, f4⟩ := five_cells hh3
            clear hh3
            have hgs := grown_set wy p 4 (.int .i64 x1)
            have HEz : Aside0 (EndAt (wy.setCell ⟨p, 4, none⟩ (.int .i64 x1)) p { t with exp := t.exp + 1 } F) := ⟨came_close HEy.out HEL.out.1 HEL.out.2⟩
            have HKz : Aside0 (Kept w F (wy.setCell ⟨p, 4, none⟩ (.int .i64 x1))) := ⟨HKy.out.trans (Kept.of_grown (F := F) hgs (fun k' e' => by injection e' with e'; subst e'; exact HT0.out.is.2.1)) (fun _ _ h => h)⟩
            have hfz : (wy.setCell ⟨p, 4, none⟩ (.int .i64 x1)).heap[b]? = some (.cells #[.int .u32 f.s, .int .i64 f.q, .int .i64 f.k, .slice B m c] 42 (0, 0)) := (hgs.block b (Array.getElem?_eq_some_iff.1 HFy.out).1 (fun e' => HPB.out (by injection e' with e'; exact e'.symm))).trans HFy.out
            obtain ⟨d0, d1, d2, d3⟩ := four_at hfz
            have HYz : Aside0 (Kd.C (Kd.int .u8) (wy.setCell ⟨p, 4, none⟩ (.int .i64 x1)) B f.d.length f.d) := ⟨HYK.out _ HKz.out⟩
            have HML : Aside0 (f.d.length ≤ 140737488355328) := HFL
            clear hgs hfz
            go_wp2_with fail
            rw [HM.out]
            refine (clone_calls _ B c f.d HYz.out HML.out).mono ?_
            rintro e wc ⟨u, rfl, hou, hbc⟩
            obtain ⟨Au, cu, rfl, _⟩ := hou.reads
            have HOU := Aside0.mk hou
            have HEc := Aside0.mk (HEz.out.below hbc)
            have HKc := Aside0.mk (HKz.out.trans (Kept.of_below F hbc) (fun _ _ h => h))
            have HLO : Aside0 (w.heap.size ≤ (wy.setCell ⟨p, 4, none⟩ (.int .i64 x1)).heap.size) := ⟨HKz.out.size⟩
            clear hou hbc
            go_wp2_with fail
            go_ret2
            rw [HV.out]
            exact ⟨Au, cu, rfl, HOU.out.lower HLO.out, HEc.out, HKc.out⟩
        · have bq : (f.q != (t.exp : Int)) = true := by simpa using hq
          have HV : Aside0 (s.on f = (t, [], 0)) := ⟨by rw [HON3.out, if_pos (.inr hq)]⟩
          clear hq hm0
          go_quiet (fail)
          have HE1 := Aside0.mk (HN1.out nq).1
          have HK1 := Aside0.mk (HN1.out nq).2.1
          go_wp2_with fail
          go_ret2
          exact reton_nil HV.out HE1.out HK1.out
  · have b0 : (f.s != s.ses) = true := by simpa using h1
    have HV : Aside0 (s.on f = (s, [], 90)) := ⟨by rw [HONU.out, if_pos h1]⟩
    clear h1 HONU
    go_enter Try.func13, Try.ntmps13
    go_wp2_with fail
    rw [← HW0.out]
    refine (emade_calls _ p s F HT0.out).mono ?_
    rintro e w1 ⟨rfl, rfl⟩
    rw [← HBB.out]
    go_wp2_with fail
    go_quiet (fail)
    go_wp2_with fail
    go_ret2
    exact reton_nil HV.out (HKP.out _ (HKD.out _ _ (Below.refl _ _))).1 (HKP.out _ (HKD.out _ _ (Below.refl _ _))).2
end Go.Proofs.Ytcpkfkcemaihfaa.Oct
