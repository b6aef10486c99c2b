import Derived.Test.YtilogpjbdemceaaPathD
import Derived.Lib.SliceRun
namespace Go.Proofs.Ytilogpjbdemceaa.Oct
open Go.RowKit Go.Proofs.YtilogpjbdemceaaW.PrintWords Go.Proofs.Ytilogpjbdemceaa.M
set_option linter.unusedVariables false
set_option linter.unusedSimpArgs false
/-- texts of one's own above a mark -/
def Txts (W : World) (base : Nat) (v : Value) (ls : Bag) : Prop := ∃ vs : List Value, vs.length = ls.length ∧ OwnAt W base 26 1 v ls.length vs ∧ ∀ (j : Nat) (u : Value) (l : List Int), vs[j]? = some u → ls[j]? = some l → QB W base u l
theorem Txts.nil (W : World) (base : Nat) : Txts W base (.slice none 0 0) [] := ⟨[], rfl, OwnAt.nil _ _ _ _, fun j u l h => by simp at h⟩
theorem Txts.move {W W' : World} {base : Nat} {v : Value} {ls : Bag} (h : Txts W base v ls) (hb : ∀ k, base ≤ k → k < W.heap.size → W'.heap[k]? = W.heap[k]?) : Txts W' base v ls := by
  obtain ⟨vs, h1, h2, h3⟩ := h
  exact ⟨vs, h1, h2.move (fun k e => hb k (h2.block e).1 (h2.block e).2), fun j u l hu hl => (h3 j u l hu hl).move (fun k e => hb k ((h3 j u l hu hl).block e).1 ((h3 j u l hu hl).block e).2)⟩
theorem Txts.below {W W' : World} {base : Nat} {v : Value} {ls : Bag} (h : Txts W base v ls) (hb : Below W.heap.size W W') : Txts W' base v ls := h.move (fun k _ hk => hb.block k hk)
theorem Txts.kept {W W' : World} {base : Nat} {F : Nat → Prop} {v : Value} {ls : Bag} (h : Txts W base v ls) (hk : Kept W F W') (hF : ∀ k, base ≤ k → ¬ F k) : Txts W' base v ls := h.move (fun k h1 h2 => hk.block k h2 (hF k h1))
theorem Txts.lower {W : World} {base base' : Nat} {v : Value} {ls : Bag} (h : Txts W base v ls) (hb : base' ≤ base) : Txts W base' v ls := by
  obtain ⟨vs, h1, h2, h3⟩ := h
  exact ⟨vs, h1, h2.lower hb, fun j u l hu hl => (h3 j u l hu hl).lower hb⟩
theorem Txts.form {W : World} {base : Nat} {v : Value} {ls : Bag} (h : Txts W base v ls) : ∃ A c, v = .slice A ls.length c ∧ ls.length ≤ c := by
  obtain ⟨vs, h1, h2, h3⟩ := h
  obtain ⟨A, c, e, h, _⟩ := h2.form
  exact ⟨A, c, e, h⟩
theorem Txts.get {W : World} {base n c : Nat} {A : Option Addr} {ls : Bag} (h : Txts W base (.slice A n c) ls) {k : Nat} (hk : k < ls.length) :
    ∃ g off Au du, A = some ⟨g, off, none⟩ ∧ W.cell? ⟨g, off + k, none⟩ = some (.slice Au (ls.getD k []).length du) ∧ QB W base (.slice Au (ls.getD k []).length du) (ls.getD k []) := by
  obtain ⟨vs, h1, h2, h3⟩ := h
  have hkv : k < vs.length := by omega
  have hvk := List.getElem?_eq_getElem hkv
  have hbk : ls[k]? = some (ls.getD k []) := by rw [List.getD_eq_getElem?_getD, List.getElem?_eq_getElem hk]; rfl
  have hq := h3 k _ _ hvk hbk
  obtain ⟨Au, du, hu1, _⟩ := hq.form
  rw [hu1] at hvk hq
  rcases h2.2 with ⟨_, h0⟩ | ⟨g, off, cap, cur, e, _⟩
  · omega
  · injection e with e1 e2 e3
    subst e1 e2
    exact ⟨g, off, Au, du, rfl, h2.at hvk, hq⟩
section
variable {ops : Array Oper} {rest : List Oper} {o : Oper} {a : Act} {Q : Exit → Act → World → Prop}
theorem app_txt {W : World} (base : Nat) (hgd : o.guard = none) (s x : Operand) (ho : o.op = .call { callee := .builtin .append, args := #[s, x], argTypes := #[25, 25] })
    (v : Value) (ls : Bag) (u : Value) (l : List Int) (g : Nat) (hs : a.eval s = v) (hx : a.eval x = .slice (some ⟨g, 0, none⟩) 1 1) (HO : Txts W base v ls) (hb : W.heap[g]? = some (.cells #[u] 26 (0, 0))) (HU : QB W base u l)
    (hbase : base ≤ W.heap.size) (hl : ls.length ≤ 1000000)
    (h : ∀ v1 w1, Txts w1 base v1 (ls ++ [l]) → W.grownBy w1 v.ownBlock → (∀ k, v.ownBlock = some k → base ≤ k) → wpList Try.prog ops Q rest (a.put o.dst v1) w1) :
    wpList Try.prog ops Q (o :: rest) a W := by
  obtain ⟨vs, h1, h2, h3⟩ := HO
  obtain ⟨i0, hi0, hz0, hz1, hz2⟩ := info_parts info_row
  have hu : u.oneCell' = true := by obtain ⟨_, _, rfl, _⟩ := HU.form; rfl
  refine wpList_append_at W hgd s x 25 ho base 26 i0 (.slice none 0 0) 1 24 Try.underlying25 hi0 hz0 hz1 hz2 rfl Nat.zero_lt_one v ls.length vs hs h2 (some ⟨g, 0, none⟩) 1 1 [u] hx rfl (fun _ => ⟨_, rfl, fun j u' hu' => ?_⟩) (fun u' hu' => by rw [List.mem_singleton.1 hu']; exact hu) (by simp only [maxLen]; omega) (by omega) hbase ?_
  · have hj : j = 0 := by have := (List.getElem?_eq_some_iff.1 hu').1; simpa using this
    subst hj
    obtain rfl : u' = u := by simpa using hu'.symm
    rw [Addr.add_lit]
    exact (one_cell hb).1
  · intro v1 w1 ho1 hg hn
    have hmv : ∀ {u' : Value} {l' : List Int}, QB W base u' l' → QB w1 base u' l' := fun {u' l'} hq => hq.move (fun k e => hg.block k (hq.block e).2 (fun e2 => by
      obtain ⟨cur, hc⟩ := h2.type e2.symm
      obtain ⟨cur2, hc2⟩ := OwnAt.type hq e
      rw [hc] at hc2
      injection hc2 with hc2
      injection hc2 with _ hc2
      exact absurd hc2 (by decide)))
    refine h v1 w1 ⟨vs ++ [u], by simp [h1], by rw [List.length_append]; exact ho1, fun j u' l' hu' hl' => ?_⟩ hg (fun k e => (h2.block e).1)
    rcases Nat.lt_or_ge j vs.length with hj | hj
    · rw [List.getElem?_append_left hj] at hu'
      rw [List.getElem?_append_left (by omega)] at hl'
      exact hmv (h3 j u' l' hu' hl')
    · rw [List.getElem?_append_right hj] at hu'
      rw [List.getElem?_append_right (by omega)] at hl'
      have hj0 : j - vs.length = 0 := by have := (List.getElem?_eq_some_iff.1 hu').1; simp at this; omega
      rw [hj0] at hu'
      rw [show j - ls.length = 0 by omega] at hl'
      obtain rfl : u' = u := by simpa using hu'.symm
      obtain rfl : l' = l := by simpa using hl'.symm
      exact hmv HU
end
theorem pall_nil (w : World) : Calls Try.prog 19 #[.pointer none] w fun e w' => e = .returned (.slice none 0 0) ∧ w' = w := by
  go_enter Try.func19, Try.ntmps19
  go_wp2
  go_ret
  exact ⟨rfl, rfl⟩
set_option maxHeartbeats 2000000 in
theorem pall_calls (w : World) (p : Nat) (bag : Bag) (F : Nat → Prop) (h : PathAt w p bag F) :
    Calls Try.prog 19 #[.pointer (some ⟨p, 0, none⟩)] w fun e w' => ∃ A c, e = .returned (.slice A bag.length c) ∧ Txts w' w.heap.size (.slice A bag.length c) bag ∧ Below w.heap.size w w' := by
  have HT := Aside0.mk h
  have hl : bag.length ≤ 256 := h.is.2.2.1
  have HOK := Aside0.mk h.is.2.2
  obtain ⟨v, vs, hh, ho, he, hp, hkf, hu, hok⟩ := h
  obtain ⟨B, d, rfl, hd, _⟩ := ho.form
  obtain ⟨c0, f0⟩ := one_cell hh
  have HO := Aside0.mk ho
  have HE := Aside0.mk he
  clear hh ho he hp hkf hu hok
  obtain ⟨n, hn⟩ : ∃ n, n = bag.length := ⟨_, rfl⟩
  have HN := Aside0.mk hn
  rw [← hn] at c0 hl hd ⊢
  clear hn
  go_enter Try.func19, Try.ntmps19
  go_wp2_with fail
  go_loopw [3, 13] (fun v3 v13 wr => ∃ j : Nat, j ≤ n ∧ v13 = .int .i64 j ∧ Aside0 (Txts wr w.heap.size v3 (bag.take j)) ∧ Aside0 (Below w.heap.size w wr)) (fun _ v _ => n - (intOf v).toNat)
  case atStart => exact ⟨0, by omega, rfl, ⟨Txts.nil _ _⟩, ⟨Below.refl _ _⟩⟩
  case round =>
    obtain ⟨j, hj, rfl, HX, HB⟩ := hrel
    obtain ⟨A3, c3, rfl, _⟩ := HX.out.form
    by_cases hlt : j < n
    · have hjl : j < bag.length := by rw [← HN.out]; exact hlt
      obtain ⟨g, off, d', Au, du, e0, e1, hC, _⟩ := (HT.out.below HB.out).get hjl
      have ec := (HB.out.cell (World.block_lt_of_cell? _ _ c0)).trans c0
      rw [← HN.out, ec] at e0
      have hB : B = some ⟨g, off, none⟩ := by injection e0 with e0; injection e0
      subst hB
      have HC := Aside0.mk hC
      have HG := Aside0.mk (Bag.get_ok HOK.out j)
      have HTK : Aside0 (bag.take (j + 1) = bag.take j ++ [bag.getD j []]) := ⟨by rw [List.take_succ_eq_append_getElem hjl, List.getD_eq_getElem?_getD, List.getElem?_eq_getElem hjl]; rfl⟩
      have HTL : Aside0 ((bag.take j).length ≤ 1000000) := ⟨by rw [List.length_take]; omega⟩
      obtain ⟨l, hl1⟩ : ∃ l, l = bag.getD j [] := ⟨_, rfl⟩
      rw [← hl1] at e1 HC HG HTK
      obtain ⟨ls, hls⟩ : ∃ ls, ls = bag.take j := ⟨_, rfl⟩
      rw [← hls] at HX HTK HTL
      rw [← hls]
      clear hl1 hC e0 ec hls hjl
      go_wp2_with fail
      refine (clone_calls _ Au du l HC.out (by have := HG.out.1; omega)).mono ?_
      rintro e wc ⟨u, rfl, hou, hbc⟩
      obtain ⟨A5, c5, rfl, _⟩ := hou.reads
      have HOU := Aside0.mk (((QB.of_OB hou).lower HB.out.size).below (below_alloc (Below.refl wc.heap.size wc) (.cells #[.slice A5 l.length c5] 26)))
      have HXC := Aside0.mk ((HX.out.below hbc).below (below_alloc (Below.refl wc.heap.size wc) (.cells #[.slice A5 l.length c5] 26)))
      have HBC := Aside0.mk (below_alloc (HB.out.trans (hbc.mono HB.out.size)) (.cells #[.slice A5 l.length c5] 26))
      clear hou hbc e1
      go_wp2_with ((with_reducible refine gate_dst (N := 21) rfl ?_); at_builtin; refine app_txt w.heap.size rfl (.tmp 17) (.tmp 20) rfl (.slice A3 ls.length c3) ls (.slice A5 l.length c5) l wc.heap.size rfl rfl HXC.out (heap_alloc_new wc _) HOU.out HBC.out.size HTL.out ?_; intro v1 w1 ho1 hg1 hk1; have HO1 := Aside0.mk ho1; have HB1 := Aside0.mk (HBC.out.grown hg1 HBC.out.size hk1); clear ho1 hg1 hk1)
      go_roundw
      case rel => exact ⟨j + 1, by omega, by go_num, ⟨by rw [HTK.out]; exact HO1.out⟩, HB1⟩
      case measure => simp [intOf]; omega
    · obtain rfl : j = n := by omega
      have HTK : Aside0 (bag.take j = bag) := ⟨by rw [HN.out, List.take_length]⟩
      rw [HTK.out] at HX
      rw [HTK.out, ← HN.out]
      go_wp2_with fail
      go_ret
      refine ⟨A3, c3, rfl, ?_, HB.out⟩
      rw [HN.out]
      exact HX.out
theorem pclear_nil (w : World) : Calls Try.prog 32 #[.pointer none] w fun e w' => e = .returned (.int .i64 6) ∧ w' = w := by
  go_enter Try.func32, Try.ntmps32
  go_wp2
  go_ret
  exact ⟨rfl, rfl⟩
theorem clear_none (W : World) (ty : TypeId) : (Builtin.clear_ #[25] ty #[.slice none 0 0]).run Try.prog W = .ok (.tuple #[]) W := by
  simp [Builtin.clear_, run_underlying Try.underlying25]
theorem clear_zero (W : World) (ty : TypeId) (a : Addr) (d : Nat) : (Builtin.clear_ #[25] ty #[.slice (some a) 0 d]).run Try.prog W = .ok (.tuple #[]) W := by
  simp [Builtin.clear_, run_underlying Try.underlying25]
theorem zero_row (W : World) : (zeroValue 26).run Try.prog W = .ok (.slice none 0 0) W := by
  obtain ⟨i0, hi0, hz0, hz1, hz2⟩ := info_parts info_row
  simp [zeroValue, typeInfo, hi0, hz0]
theorem clear_close {w w1 : World} {p g off d : Nat} {F : Nat → Prop} {v : Value} {cur : Array Value} (hh : w1.heap[p]? = some (.cells #[v] 55 (0, 0))) (hg : w1.heap[g]? = some (.cells cur 26 (0, 0))) (hm : d ≤ maxLen) (hcs : off + d * 1 ≤ cur.size) (hp : F p) (hF : F g) (hk : Kept w F w1) :
    RetP w p F [] 0 (.returned (.int .i64 0)) (w1.setCell ⟨p, 0, none⟩ (.slice (some ⟨g, off, none⟩) 0 d)) := by
  have hs := grown_set w1 p 0 (.slice (some ⟨g, off, none⟩) 0 d)
  have hgp : g ≠ p := by
    rintro rfl
    rw [hh] at hg
    injection hg with hg
    injection hg with _ hg
    exact absurd hg (by decide)
  refine ⟨rfl, ⟨_, [], heap_set _ hh, ⟨rfl, .inr ⟨g, off, d, cur, rfl, Nat.zero_le _, (hs.block g (Array.getElem?_eq_some_iff.1 hg).1 (fun e => hgp (by injection e))).trans hg, Nat.zero_le _, hm, hcs, by simp⟩⟩, ⟨rfl, fun j u l h => by simp at h, List.Pairwise.nil⟩, .inl hp, fun k e => ?_, fun u h => (nomatch h), Bag.ok_nil⟩, hk.trans (Kept.of_grown (F := F) hs (fun k e => by injection e with e; subst e; exact hp)) (fun _ _ h => h)⟩
  injection e with e
  dsimp only at e
  subst e
  exact .inl hF
theorem clear_close_nil {w : World} {p : Nat} {F : Nat → Prop} {v : Value} (hh : w.heap[p]? = some (.cells #[v] 55 (0, 0))) (hp : F p) :
    RetP w p F [] 0 (.returned (.int .i64 0)) (w.setCell ⟨p, 0, none⟩ (.slice none 0 0)) := by
  have hs := grown_set w p 0 (.slice none 0 0)
  exact ⟨rfl, ⟨_, [], heap_set _ hh, OwnAt.nil _ _ _ _, ⟨rfl, fun j u l h => by simp at h, List.Pairwise.nil⟩, .inl hp, fun k e => (nomatch e), fun u h => (nomatch h), Bag.ok_nil⟩, Kept.of_grown hs (fun k e => by injection e with e; subst e; exact hp)⟩
set_option maxHeartbeats 2000000 in
theorem pclear_calls (w : World) (p : Nat) (bag : Bag) (F : Nat → Prop) (h : PathAt w p bag F) :
    Calls Try.prog 32 #[.pointer (some ⟨p, 0, none⟩)] w (RetP w p F [] 0) := by
  obtain ⟨v, vs, hh, ho, he, hp, hkf, hu, hok⟩ := h
  have HH := Aside0.mk hh
  have HP := Aside0.mk hp
  have hl : bag.length ≤ 256 := hok.1
  obtain ⟨c0, f0⟩ := one_cell hh
  rcases ho.2 with ⟨rfl, h0⟩ | ⟨g, off, cap, cur, rfl, hbg, hg, hc, hm, hcs, htk⟩
  · have hcl := clear_none w
    clear hh ho he hp hkf hu hok h0 hl
    go_enter Try.func32, Try.ntmps32
    go_wp2_with fail
    go_ret
    exact clear_close_nil HH.out HP.out
  · have HF := Aside0.mk (hkf g rfl)
    have HG := Aside0.mk hg
    have HM := Aside0.mk (And.intro hm hcs)
    obtain ⟨n, hn⟩ : ∃ n, n = bag.length := ⟨_, rfl⟩
    rw [← hn] at c0 hl hc
    rcases Nat.eq_zero_or_pos n with rfl | hpos
    · have hcl := fun ty => clear_zero w ty ⟨g, off, none⟩ cap
      clear hh ho he hp hkf hu hok hn hm hcs htk hg
      go_enter Try.func32, Try.ntmps32
      go_wp2_with fail
      go_ret
      exact clear_close HH.out HG.out HM.out.1 HM.out.2 HP.out HF.out (Kept.refl _ _)
    · have hlt : ∀ j, j < n → off + j < cur.size := fun j hj => by omega
      have hcl := fun ty => Lib.run_clear_slice (P := Try.prog) w 25 26 ty (.slice none 0 0) Try.underlying25 zero_row rfl rfl g off n cap hpos (fun j hj => by rw [cell_of_row w g _ cur _ _ hg]; simp [hlt j hj]) (fun j hj => by simp [World.frozen?, hg])
      obtain ⟨w1, hw1⟩ : ∃ w1, w1 = w.setCells g off (List.replicate n (.slice none 0 0)) := ⟨_, rfl⟩
      have hg1 := heap_setCells g (List.replicate n (.slice none 0 0)) off w cur 26 hg (by simp; omega)
      have hgr := grown_setCells w g off (List.replicate n (.slice none 0 0))
      rw [← hw1] at hg1 hgr
      simp only [← hw1] at hcl
      have hgp : g ≠ p := by
        rintro rfl
        rw [hh] at hg
        injection hg with hg
        injection hg with _ hg
        exact absurd hg (by decide)
      have hh1 := (hgr.block p (Array.getElem?_eq_some_iff.1 hh).1 (fun e => hgp (by injection e with e; exact e.symm))).trans hh
      obtain ⟨d0, e0⟩ := one_cell hh1
      have HH1 := Aside0.mk hh1
      have HG1 := Aside0.mk hg1
      have HK1 : Aside0 (Kept w F w1) := ⟨Kept.of_grown hgr (fun k e => by injection e with e; subst e; exact hkf g rfl)⟩
      have HS1 : Aside0 (off + cap * 1 ≤ (List.take off cur.toList ++ List.replicate n (Value.slice none 0 0) ++ List.drop (off + (List.replicate n (Value.slice none 0 0)).length) cur.toList).toArray.size) := ⟨by simp; omega⟩
      clear hh ho he hp hkf hu hok hn hm hcs htk hg hw1 hg1 hgr hgp hh1 hlt
      go_enter Try.func32, Try.ntmps32
      go_wp2_with fail
      go_ret
      exact clear_close HH1.out HG1.out HM.out.1 HS1.out HP.out HF.out HK1.out
end Go.Proofs.Ytilogpjbdemceaa.Oct
