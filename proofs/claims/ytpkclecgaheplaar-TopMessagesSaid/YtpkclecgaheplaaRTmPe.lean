import Derived.Test.YtpkclecgaheplaaRPathD
import Derived.Lib.SliceRun
namespace Go.Proofs.YtpkclecgaheplaaR.Oct
open Go.RowKit Go.Proofs.YtpkclecgaheplaaRW.PrintWords Go.Proofs.YtpkclecgaheplaaR.M
set_option linter.unusedVariables false
set_option linter.unusedSimpArgs false
/-- texts of one's own above a mark -/
def Txts (W : World) (base : Nat) (v : Value) (ls : Bag) : Prop := ∃ vs : List Value, vs.length = ls.length ∧ OwnAt W base 28 1 v ls.length vs ∧ ∀ (j : Nat) (u : Value) (l : List Int), vs[j]? = some u → ls[j]? = some l → QB W base u l
theorem Txts.nil (W : World) (base : Nat) : Txts W base (.slice none 0 0) [] := ⟨[], rfl, OwnAt.nil _ _ _ _, fun j u l h => by simp at h⟩
theorem Txts.move {W W' : World} {base : Nat} {v : Value} {ls : Bag} (h : Txts W base v ls) (hb : ∀ k, base ≤ k → k < W.heap.size → W'.heap[k]? = W.heap[k]?) : Txts W' base v ls := by
  obtain ⟨vs, h1, h2, h3⟩ := h
  exact ⟨vs, h1, h2.move (fun k e => hb k (h2.block e).1 (h2.block e).2), fun j u l hu hl => (h3 j u l hu hl).move (fun k e => hb k ((h3 j u l hu hl).block e).1 ((h3 j u l hu hl).block e).2)⟩
theorem Txts.below {W W' : World} {base : Nat} {v : Value} {ls : Bag} (h : Txts W base v ls) (hb : Below W.heap.size W W') : Txts W' base v ls := h.move (fun k _ hk => hb.block k hk)
theorem Txts.kept {W W' : World} {base : Nat} {F : Nat → Prop} {v : Value} {ls : Bag} (h : Txts W base v ls) (hk : Kept W F W') (hF : ∀ k, base ≤ k → ¬ F k) : Txts W' base v ls := h.move (fun k h1 h2 => hk.block k h2 (hF k h1))
theorem Txts.lower {W : World} {base base' : Nat} {v : Value} {ls : Bag} (h : Txts W base v ls) (hb : base' ≤ base) : Txts W base' v ls := by
  obtain ⟨vs, h1, h2, h3⟩ := h
  exact ⟨vs, h1, h2.lower hb, fun j u l hu hl => (h3 j u l hu hl).lower hb⟩
theorem Txts.form {W : World} {base : Nat} {v : Value} {ls : Bag} (h : Txts W base v ls) : ∃ A c, v = .slice A ls.length c ∧ ls.length ≤ c := by
  obtain ⟨vs, h1, h2, h3⟩ := h
  obtain ⟨A, c, e, h, _⟩ := h2.form
  exact ⟨A, c, e, h⟩
theorem Txts.get {W : World} {base n c : Nat} {A : Option Addr} {ls : Bag} (h : Txts W base (.slice A n c) ls) {k : Nat} (hk : k < ls.length) :
    ∃ g off Au du, A = some ⟨g, off, none⟩ ∧ W.cell? ⟨g, off + k, none⟩ = some (.slice Au (ls.getD k []).length du) ∧ QB W base (.slice Au (ls.getD k []).length du) (ls.getD k []) := by
  obtain ⟨vs, h1, h2, h3⟩ := h
  have hkv : k < vs.length := by omega
  have hvk := List.getElem?_eq_getElem hkv
  have hbk : ls[k]? = some (ls.getD k []) := by rw [List.getD_eq_getElem?_getD, List.getElem?_eq_getElem hk]; rfl
  have hq := h3 k _ _ hvk hbk
  obtain ⟨Au, du, hu1, _⟩ := hq.form
  rw [hu1] at hvk hq
  rcases h2.2 with ⟨_, h0⟩ | ⟨g, off, cap, cur, e, _⟩
  · omega
  · injection e with e1 e2 e3
    subst e1 e2
    exact ⟨g, off, Au, du, rfl, h2.at hvk, hq⟩
section
variable {ops : Array Oper} {rest : List Oper} {o : Oper} {a : Act} {Q : Exit → Act → World → Prop}
theorem app_txt {W : World} (base : Nat) (hgd : o.guard = none) (s x : Operand) (ho : o.op = .call { callee := .builtin .append, args := #[s, x], argTypes := #[50, 50] })
    (v : Value) (ls : Bag) (u : Value) (l : List Int) (g : Nat) (hs : a.eval s = v) (hx : a.eval x = .slice (some ⟨g, 0, none⟩) 1 1) (HO : Txts W base v ls) (hb : W.heap[g]? = some (.cells #[u] 28 (0, 0))) (HU : QB W base u l)
    (hbase : base ≤ W.heap.size) (hl : ls.length ≤ 1000000)
    (h : ∀ v1 w1, Txts w1 base v1 (ls ++ [l]) → W.grownBy w1 v.ownBlock → (∀ k, v.ownBlock = some k → base ≤ k) → wpList Try.prog ops Q rest (a.put o.dst v1) w1) :
    wpList Try.prog ops Q (o :: rest) a W := by
  obtain ⟨vs, h1, h2, h3⟩ := HO
  obtain ⟨i0, hi0, hz0, hz1, hz2⟩ := info_parts info_row
  have hu : u.oneCell' = true := by obtain ⟨_, _, rfl, _⟩ := HU.form; rfl
  refine wpList_append_at W hgd s x 50 ho base 28 i0 (.slice none 0 0) 1 24 Try.underlying50 hi0 hz0 hz1 hz2 rfl Nat.zero_lt_one v ls.length vs hs h2 (some ⟨g, 0, none⟩) 1 1 [u] hx rfl (fun _ => ⟨_, rfl, fun j u' hu' => ?_⟩) (fun u' hu' => by rw [List.mem_singleton.1 hu']; exact hu) (by simp only [maxLen]; omega) (by omega) hbase ?_
  · have hj : j = 0 := by have := (List.getElem?_eq_some_iff.1 hu').1; simpa using this
    subst hj
    obtain rfl : u' = u := by simpa using hu'.symm
    rw [Addr.add_lit]
    exact (one_cell hb).1
  · intro v1 w1 ho1 hg hn
    have hmv : ∀ {u' : Value} {l' : List Int}, QB W base u' l' → QB w1 base u' l' := fun {u' l'} hq => hq.move (fun k e => hg.block k (hq.block e).2 (fun e2 => by
      obtain ⟨cur, hc⟩ := h2.type e2.symm
      obtain ⟨cur2, hc2⟩ := OwnAt.type hq e
      rw [hc] at hc2
      injection hc2 with hc2
      injection hc2 with _ hc2
      exact absurd hc2 (by decide)))
    refine h v1 w1 ⟨vs ++ [u], by simp [h1], by rw [List.length_append]; exact ho1, fun j u' l' hu' hl' => ?_⟩ hg (fun k e => (h2.block e).1)
    rcases Nat.lt_or_ge j vs.length with hj | hj
    · rw [List.getElem?_append_left hj] at hu'
      rw [List.getElem?_append_left (by omega)] at hl'
      exact hmv (h3 j u' l' hu' hl')
    · rw [List.getElem?_append_right hj] at hu'
      rw [List.getElem?_append_right (by omega)] at hl'
      have hj0 : j - vs.length = 0 := by have := (List.getElem?_eq_some_iff.1 hu').1; simp at this; omega
      rw [hj0] at hu'
      rw [show j - ls.length = 0 by omega] at hl'
      obtain rfl : u' = u := by simpa using hu'.symm
      obtain rfl : l' = l := by simpa using hl'.symm
      exact hmv HU
end
theorem pall_nil (w : World) : Calls Try.prog 14 #[.pointer none] w fun e w' => e = .returned (.slice none 0 0) ∧ w' = w := by
  go_enter Try.func14, Try.ntmps14
  go_wp2
  go_ret
  exact ⟨rfl, rfl⟩
set_option maxHeartbeats 2000000 in
theorem pall_calls (w : World) (p : Nat) (bag : Bag) (F : Nat → Prop) (h : PathAt w p bag F) :
    Calls Try.prog 14 #[.pointer (some ⟨p, 0, none⟩)] w fun e w' => ∃ A c, e = .returned (.slice A bag.length c) ∧ Txts w' w.heap.size (.slice A bag.length c) bag ∧ Below w.heap.size w w' := by
  have HT := Aside0.mk h
  have hl : bag.length ≤ 256 := h.is.2.2.1
  have HOK := Aside0.mk h.is.2.2
  obtain ⟨v, vs, hh, ho, he, hp, hkf, hu, hok⟩ := h
  obtain ⟨B, d, rfl, hd, _⟩ := ho.form
  obtain ⟨c0, f0⟩ := one_cell hh
  have HO := Aside0.mk ho
  have HE := Aside0.mk he
  clear hh ho he hp hkf hu hok
  obtain ⟨n, hn⟩ : ∃ n, n = bag.length := ⟨_, rfl⟩
  have HN := Aside0.mk hn
  rw [← hn] at c0 hl hd ⊢
  clear hn
  go_enter Try.func14, Try.ntmps14
  go_wp2_with fail
  go_loopw [3, 13] (fun v3 v13 wr => ∃ j : Nat, j ≤ n ∧ v13 = .int .i64 j ∧ Aside0 (Txts wr w.heap.size v3 (bag.take j)) ∧ Aside0 (Below w.heap.size w wr)) (fun _ v _ => n - (intOf v).toNat)
  case atStart => exact ⟨0, by omega, rfl, ⟨Txts.nil _ _⟩, ⟨Below.refl _ _⟩⟩
  case round =>
    obtain ⟨j, hj, rfl, HX, HB⟩ := hrel
    obtain ⟨A3, c3, rfl, _⟩ := HX.out.form
    by_cases hlt : j < n
    · have hjl : j < bag.length := by rw [← HN.out]; exact hlt
      obtain ⟨g, off, d', Au, du, e0, e1, hC, _⟩ := (HT.out.below HB.out).get hjl
      have ec := (HB.out.cell (World.block_lt_of_cell? _ _ c0)).trans c0
      rw [← HN.out, ec] at e0
      have hB : B = some ⟨g, off, none⟩ := by injection e0 with e0; injection e0
      subst hB
      have HC := Aside0.mk hC
      have HG := Aside0.mk (Bag.get_ok HOK.out j)
      have HTK : Aside0 (bag.take (j + 1) = bag.take j ++ [bag.getD j []]) := ⟨by rw [List.take_succ_eq_append_getElem hjl, List.getD_eq_getElem?_getD, List.getElem?_eq_getElem hjl]; rfl⟩
      have HTL : Aside0 ((bag.take j).length ≤ 1000000) := ⟨by rw [List.length_take]; omega⟩
      obtain ⟨l, hl1⟩ : ∃ l, l = bag.getD j [] := ⟨_, rfl⟩
      rw [← hl1] at e1 HC HG HTK
      obtain ⟨ls, hls⟩ : ∃ ls, ls = bag.take j := ⟨_, rfl⟩
      rw [← hls] at HX HTK HTL
      rw [← hls]
      clear hl1 hC e0 ec hls hjl
      go_wp2_with fail
      refine (clone_calls _ Au du l HC.out (by have := HG.out.1; omega)).mono ?_
      rintro e wc ⟨u, rfl, hou, hbc⟩
      obtain ⟨A5, c5, rfl, _⟩ := hou.reads
      have HOU := Aside0.mk (((QB.of_OB hou).lower HB.out.size).below (below_alloc (Below.refl wc.heap.size wc) (.cells #[.slice A5 l.length c5] 28)))
      have HXC := Aside0.mk ((HX.out.below hbc).below (below_alloc (Below.refl wc.heap.size wc) (.cells #[.slice A5 l.length c5] 28)))
      have HBC := Aside0.mk (below_alloc (HB.out.trans (hbc.mono HB.out.size)) (.cells #[.slice A5 l.length c5] 28))
      clear hou hbc e1
      go_wp2_with ((with_reducible refine gate_dst (N := 21) rfl ?_); at_builtin; refine app_txt w.heap.size rfl (.tmp 17) (.tmp 20) rfl (.slice A3 ls.length c3) ls (.slice A5 l.length c5) l wc.heap.size rfl rfl HXC.out (heap_alloc_new wc _) HOU.out HBC.out.size HTL.out ?_; intro v1 w1 ho1 hg1 hk1; have HO1 := Aside0.mk ho1; have HB1 := Aside0.mk (HBC.out.grown hg1 HBC.out.size hk1); clear ho1 hg1 hk1)
      go_roundw
      case rel => exact ⟨j + 1, by omega, by go_num, ⟨by rw [HTK.out]; exact HO1.out⟩, HB1⟩
      case measure => simp [intOf]; omega
    · obtain rfl : j = n := by omega
      have HTK : Aside0 (bag.take j = bag) := ⟨by rw [HN.out, List.take_length]⟩
      rw [HTK.out] at HX
      rw [HTK.out, ← HN.out]
      go_wp2_with fail
      go_ret
      refine ⟨A3, c3, rfl, ?_, HB.out⟩
      rw [HN.out]
      exact HX.out
end Go.Proofs.YtpkclecgaheplaaR.Oct
