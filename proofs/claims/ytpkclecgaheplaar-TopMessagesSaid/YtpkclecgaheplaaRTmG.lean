import Derived.Test.YtpkclecgaheplaaRTmP
import Derived.Test.YtpkclecgaheplaaRSeq
/- gds.Write, of a text that is one piece. -/
namespace Go.Proofs.YtpkclecgaheplaaR.Oct
open Go.RowKit Go.Proofs.YtpkclecgaheplaaRW.PrintWords Go.Proofs.YtpkclecgaheplaaR.M
set_option linter.unusedVariables false
set_option linter.unusedSimpArgs false
attribute [local go_sem] Oper.semAt_some
theorem in_app {F : Fence} {n : Nat} {W : World} {ops : Array Oper} {rest : List Oper} {o : Oper} {a : Act} {Q : Exit → Act → World → Prop} (base : Nat) (hg : o.guard = none) (s x : Operand) (hop : o.op = .call { callee := .builtin .append, args := #[s, x], argTypes := #[28, 28] })
    (v : Value) (xs ys : List Int) (B : Option Addr) (m c k : Nat) (hm : m = ys.length) (hkl : k = xs.length + ys.length) (hs : a.eval s = v) (hx : a.eval x = .slice B m c) (HO : QB W base v xs) (HR : Kd.C (Kd.int .u8) W B ys.length ys) (hbase : base ≤ W.heap.size) (hl : xs.length + ys.length ≤ 100000)
    (h : ∀ A1 c1 w1, QB w1 base (.slice A1 k c1) (xs ++ ys) → W.grownBy w1 v.ownBlock → ((Value.slice A1 k c1).ownBlock = v.ownBlock ∨ ∃ b, (Value.slice A1 k c1).ownBlock = some b ∧ W.heap.size ≤ b) → wpListIn F n Try.prog ops Q rest (a.put o.dst (.slice A1 k c1)) w1) :
    wpListIn F n Try.prog ops Q (o :: rest) a W := by
  subst hm hkl
  obtain ⟨i0, hi0, hz0, hz1, hz2⟩ := info_parts info_u8
  refine wpListIn_plain hg fun K hK' => ?_
  obtain ⟨v', w', hrun, r1, r2, r3⟩ := run_append_at (P := Try.prog) W base 28 o.type 5 i0 (.int .u8 0) 1 1 Try.underlying28 hi0 hz0 hz1 hz2 rfl Nat.zero_lt_one v xs.length (nums .u8 xs) HO B ys.length c (nums .u8 ys) (nums_len ys) (bytes_news HR) (nums_one ys) (by simp only [maxLen]; omega) (by omega) hbase
  have hq : QB w' base v' (xs ++ ys) := by
    unfold QB
    rw [nums_append, List.length_append]
    exact r1
  obtain ⟨A1, c1, rfl, _⟩ := hq.form
  rw [List.length_append] at hq hrun r3
  unfold Oper.wpIn
  refine ⟨?_, ?_⟩
  · simp [Oper.about, hop, resolve, Target.leads, Sem.run_pure]
  · rw [Oper.semAt_plain F _ _ (by rw [hop]; intro c hc'; cases hc')]
    simp [execOp, hop, resolve, invoke, builtin, hs, hx, hrun, Result.andThen]
    exact hK' _ _ (h A1 c1 w' hq r2 r3)
theorem turn_blk {A : World} {l k : Nat} {o o' : Obj} {cs : Array Value} {t : TypeId} {fr : Nat × Nat} (h : A.heap[k]? = some (.cells cs t fr)) (hl : A.heap[l]? = some o) (ho : o.isCells = false) : (A.putObj l o').heap[k]? = A.heap[k]? :=
  World.putObj_heap_other (fun e => by subst e; rw [h] at hl; injection hl with hl; rw [← hl] at ho; exact absurd ho (by simp [Obj.isCells]))
theorem turn_below {n0 l : Nat} {w A : World} (h : Below n0 w A) (hn : n0 ≤ w.heap.size) (hl : n0 ≤ l) (o : Obj) : Below n0 w (A.putObj l o) :=
  h.grown (grownBy_putObj' A l o) (Nat.le_trans hn h.size) (fun k e => by injection e with e; omega)
theorem turn_q {A : World} {base l : Nat} {v : Value} {xs : List Int} {o o' : Obj} (h : QB A base v xs) (hl : A.heap[l]? = some o) (ho : o.isCells = false) : QB (A.putObj l o') base v xs :=
  h.move (fun k hk => by obtain ⟨cur, hc⟩ := OwnAt.type h hk; exact turn_blk hc hl ho)
set_option maxHeartbeats 1000000 in
theorem piecesf_calls (n : Nat) (A : Option Addr) (len c : Nat) (sg : Int) (w : World) :
    CallsIn Fence.wide n Try.prog 28 #[.slice A len c, .int .i64 sg] w fun e w' => e = .returned (.func (.func 32) #[] #[.pointer (some ⟨w.heap.size, 0, none⟩), .pointer (some ⟨w.heap.size + 1, 0, none⟩)]) ∧ w' = (w.alloc (.cells #[.slice A len c] 28)).alloc (.cells #[.int .i64 sg] 3) := by
  refine callsIn_of_wp Try.func28 rfl trivial ?_ rfl
  simp only [Try.ntmps28, List.size_toArray, List.length_cons, List.length_nil, Nat.reduceAdd, Nat.reduceSub, Array.replicate_succ, Array.replicate_zero, List.push_toArray, List.append_toArray, List.nil_append, List.cons_append]
  gi_wp2
  go_ret
  exact ⟨by simp, rfl⟩
/-- what the one round is told -/
def RxG (A : Option Addr) (d : List Int) (p6 : Nat) (x : Unit) (W : World) : Prop := Kd.C (Kd.int .u8) W A d.length d ∧ W.heap[p6]? = some (.cells #[.slice none 0 0] 28 (0, 0))
set_option maxRecDepth 100000 in
set_option maxHeartbeats 8000000 in
theorem pieces1_in (n : Nat) (hn : 1 ≤ n) (l Bs Ss p6 : Nat) (A : Option Addr) (c : Nat) (d : List Int) (hlen : d.length ≤ 10) (J Jx : List Unit → World → Prop)
    (hY : ∀ pre x W1, J pre W1 → RxG A d p6 x W1 → YieldAt Fence.wide (n - 1) Try.prog l #[.slice A d.length c, .bool true] W1 (fun e W' => (e = .returned (.bool true) ∧ J (pre ++ [x]) W' ∧ True) ∨ (e = .returned (.bool false) ∧ Jx (pre ++ [x]) W')))
    (W : World) (hBs : W.heap[Bs]? = some (.cells #[.slice A d.length c] 28 (0, 0))) (hSs : W.heap[Ss]? = some (.cells #[.int .i64 2048] 3 (0, 0))) (hx : RxG A d p6 () W) (h0 : J [] W) :
    CallsIn Fence.wide n Try.prog 32 #[.func (.yield l) #[] #[], .pointer (some ⟨Bs, 0, none⟩), .pointer (some ⟨Ss, 0, none⟩)] W (fun e W' => (∃ v, e = .returned v) ∧ ((∃ xs, xs = [()] ∧ J xs W') ∨ ∃ pre, True ∧ Jx pre W')) := by
  have HX := Aside0.mk hx
  have HY := Aside0.mk hY
  have H0 := Aside0.mk h0
  have c1 := (one_cell hBs).1
  have c2 := (one_cell hSs).1
  have hlt : ¬ (2048 : Int) < (d.length : Int) := by omega
  clear hBs hSs hx hY h0
  refine callsIn_of_wp Try.func32 rfl trivial ?_ rfl
  simp only [Try.ntmps32, List.size_toArray, List.length_cons, List.length_nil, Nat.reduceAdd, Nat.reduceSub, Array.replicate_succ, Array.replicate_zero, List.push_toArray, List.append_toArray, List.nil_append, List.cons_append]
  gi_wp2
  gi_loopw [13] (fun v13 wr => Aside0 (wr = W)) (fun _ _ => 0)
  case atStart => exact ⟨rfl⟩
  case round =>
    have hr := hrel.out
    clear hrel
    subst hr
    obtain ⟨fn, tmps, assign, body, hy, hR⟩ := HY.out [] () _ H0.out HX.out
    gi_wp2
    refine hR.mono ?_
    rintro e W3 (⟨rfl, hJ3, _⟩ | ⟨rfl, hJx3⟩)
    · clear hy hR
      gi_wp2
      go_end0
      exact ⟨⟨_, rfl⟩, .inl ⟨_, rfl, hJ3⟩⟩
    · clear hy hR
      gi_wp2
      go_end0
      exact ⟨⟨_, rfl⟩, .inr ⟨_, trivial, hJx3⟩⟩
abbrev varC (id : Int) (A : Option Addr) (n c : Nat) : Obj := .cells #[.int .i64 id, .slice A n c] 60 (0, 0)
theorem two_cells2 {W : World} {b : Nat} {x y : Value} {t : TypeId} (h : W.heap[b]? = some (.cells #[x, y] t (0, 0))) : W.cell? ⟨b, 0, none⟩ = some x ∧ W.cell? ⟨b, 1, none⟩ = some y ∧ W.frozen? ⟨b, 0, none⟩ = false ∧ W.frozen? ⟨b, 1, none⟩ = false := by
  refine ⟨?_, ?_, ?_, ?_⟩ <;> simp [World.cell?, World.frozen?, h]
/-- between the rounds -/
def GI (w : World) (p2 p6 base : Nat) (id : Int) (A : Option Addr) (c : Nat) (d : List Int) (s : List Unit) (W : World) : Prop := W.heap[p2]? = some (varC id A d.length c) ∧ base ≤ W.heap.size ∧ Below w.heap.size w W ∧ ((s = [] ∧ W.heap[p6]? = some (.cells #[.slice none 0 0] 28 (0, 0))) ∨ (s = [()] ∧ ∃ A1 c1, W.heap[p6]? = some (.cells #[.slice A1 (4 + d.length) c1] 28 (0, 0)) ∧ QB W base (.slice A1 (4 + d.length) c1) (gdsB id d)))
theorem GI.below {w : World} {p2 p6 base : Nat} {id : Int} {A : Option Addr} {c : Nat} {d : List Int} {s : List Unit} {W W' : World} (h : GI w p2 p6 base id A c d s W) (hb : Below W.heap.size W W') : GI w p2 p6 base id A c d s W' := by
  obtain ⟨h1, h2, h3, h4⟩ := h
  refine ⟨blk_keep h1 hb, Nat.le_trans h2 hb.size, h3.trans (hb.mono h3.size), ?_⟩
  rcases h4 with ⟨e, h⟩ | ⟨e, A1, c1, h, hq⟩
  · exact .inl ⟨e, blk_keep h hb⟩
  · exact .inr ⟨e, A1, c1, blk_keep h hb, hq.below hb⟩
theorem GI.turn {w : World} {p2 p6 base B : Nat} {id : Int} {A : Option Addr} {c : Nat} {d : List Int} (hB : w.heap.size ≤ B) (s : List Unit) : Turns B (GI w p2 p6 base id A c d s) := by
  rintro A l o o' ⟨h1, h2, h3, h4⟩ hl ho hc
  refine ⟨(turn_blk h1 ho hc).trans h1, by simpa using h2, turn_below h3 (Nat.le_refl _) (by omega) _, ?_⟩
  rcases h4 with ⟨e, h⟩ | ⟨e, A1, c1, h, hq⟩
  · exact .inl ⟨e, (turn_blk h ho hc).trans h⟩
  · exact .inr ⟨e, A1, c1, (turn_blk h ho hc).trans h, turn_q hq ho hc⟩
theorem RxG.turn {A : Option Addr} {d : List Int} {p6 B : Nat} (hA : 0 < d.length → ∀ ad, A = some ad → ad.block < B) (x : Unit) : Turns B (RxG A d p6 x) := by
  rintro W l o o' ⟨h1, h2⟩ hl ho hc
  refine ⟨⟨h1.1, h1.2.1, fun hn => ?_⟩, (turn_blk h2 ho hc).trans h2⟩
  obtain ⟨ad, e, hh⟩ := h1.2.2 hn
  refine ⟨ad, e, fun j q hj => ?_⟩
  obtain ⟨cc, hs, hr, hcell⟩ := hh j q hj
  refine ⟨cc, hs, hr, fun i u hu => ?_⟩
  have hbk : ∀ j, (ad.add j).block = ad.block := fun j => by unfold Addr.add; split <;> rfl
  rw [← hcell i u hu]
  exact World.cell?_of_block (by rw [hbk]; exact World.putObj_heap_other (by have := hA hn ad e; omega))
/-- what a round leaves behind its store -/
theorem round_close {w W w3 : World} {act : Act} {p2 p6 base : Nat} {id : Int} {A A1 : Option Addr} {c c1 : Nat} {d : List Int} (hp : w.heap.size ≤ p6 ∧ p2 ≠ p6 ∧ p6 < base) (h2 : W.heap[p2]? = some (varC id A d.length c)) (h6 : W.heap[p6]? = some (.cells #[.slice none 0 0] 28 (0, 0))) (hbs : base ≤ W.heap.size) (hbw : Below w.heap.size w W) (hb3 : Below W.heap.size W w3) (hk : KeepsOthers W w3) (hq : QB w3 base (.slice A1 (4 + d.length) c1) (gdsB id d)) :
    Left (fun _ _ => True) (GI w p2 p6 base id A c d) (fun _ _ _ => False) [()] W .normal act (w3.setCell ⟨p6, 0, none⟩ (.slice A1 (4 + d.length) c1)) := by
  have h63 := blk_keep h6 hb3
  refine ⟨hk.trans (KeepsOthers.setCell _ _ _), trivial, (Below.heap_setCell _ ⟨p6, 0, none⟩ _ p2 hp.2.1).trans (blk_keep h2 hb3), ?_, (hbw.trans (hb3.mono hbw.size)).setCell (p := ⟨p6, 0, none⟩) hp.1 _, .inr ⟨rfl, A1, c1, heap_set _ h63, hq.move (fun k e => Below.heap_setCell _ ⟨p6, 0, none⟩ _ k (fun e2 => ?_))⟩⟩
  · simp only [World.setCell, Array.size_modify]
    exact Nat.le_trans hbs hb3.size
  · have := (hq.block e).1
    have e2 : k = p6 := e2
    omega
set_option maxRecDepth 100000 in
set_option maxHeartbeats 16000000 in
theorem gwrite_calls (w : World) (id : Int) (A : Option Addr) (c : Nat) (d : List Int) (h : Kd.C (Kd.int .u8) w A d.length d) (hd : Bytes d) (hl : d.length ≤ 10) (hid : 0 ≤ id ∧ id < 65536) :
    Calls Try.prog 18 #[.agg #[.int .i64 id, .slice A d.length c], .int .i64 2048] w fun e w' => ∃ A1 c1, e = .returned (.tuple #[.slice A1 (4 + d.length) c1, .int .i64 0]) ∧ QB w' w.heap.size (.slice A1 (4 + d.length) c1) (gdsB id d) ∧ Below w.heap.size w w' := by
  have HR := Aside0.mk h
  have HX := Aside0.mk hd
  have HA : Aside0 (0 < d.length → ∀ ad, A = some ad → ad.block < w.heap.size) := ⟨fun h0 ad e => by
    obtain ⟨ad', e', hc⟩ := C_byte h (k := 0) h0
    rw [e] at e'
    injection e' with e'
    subst e'
    exact World.block_lt_of_cell? _ _ hc⟩
  obtain ⟨hi0, hi1⟩ := hid
  have hi2 : ¬ 65535 < id := by omega
  have hl2 : ¬ 2048 < (d.length : Int) := by omega
  have hl3 : ¬ 131072 < (d.length : Int) := by omega
  clear h hd
  refine (callsIn_wide (n := 6)).1 ?_
  refine callsIn_of_wp_marks Try.func18 rfl trivial ?_ rfl
  simp only [Try.ntmps18, List.size_toArray, List.length_cons, List.length_nil, Nat.reduceAdd, Nat.reduceSub, Array.replicate_succ, Array.replicate_zero, List.push_toArray, List.append_toArray, List.nil_append, List.cons_append]
  refine wpIn_wide.2 ?_
  go_wp2_with (go_at_call 28; refine ((callsIn_wide (n := 3)).1 (piecesf_calls _ A d.length c 2048 _)).mono ?_; rintro e w' ⟨rfl, rfl⟩)
  obtain ⟨W0, hW0⟩ : ∃ W0, W0 = (((w.alloc (varC id A d.length c)).alloc (.cells #[.slice none 0 0] 28)).alloc (.cells #[.slice A d.length c] 28)).alloc (.cells #[.int .i64 2048] 3) := ⟨_, rfl⟩
  obtain ⟨p2, hp2⟩ : ∃ p2, p2 = w.heap.size := ⟨_, rfl⟩
  obtain ⟨p6, hp6⟩ : ∃ p6, p6 = w.heap.size + 1 := ⟨_, rfl⟩
  obtain ⟨Bs, hBs⟩ : ∃ Bs, Bs = w.heap.size + 1 + 1 := ⟨_, rfl⟩
  obtain ⟨Ss, hSs⟩ : ∃ Ss, Ss = w.heap.size + 1 + 1 + 1 := ⟨_, rfl⟩
  have hb1 : Below w.heap.size w W0 := by rw [hW0]; exact below_alloc (below_alloc (below_alloc (below_alloc (Below.refl _ _) _) _) _) _
  have hsz : W0.heap.size = w.heap.size + 4 := by rw [hW0]; simp
  have h2 : W0.heap[p2]? = some (varC id A d.length c) := by rw [hW0, hp2]; exact blk_keep (blk_keep (blk_keep (heap_alloc_new w _) (below_alloc (Below.refl _ _) _)) (below_alloc (Below.refl _ _) _)) (below_alloc (Below.refl _ _) _)
  have h6 : W0.heap[p6]? = some (.cells #[.slice none 0 0] 28 (0, 0)) := by rw [hW0, hp6]; exact blk_keep (blk_keep (heap_alloc_new' (w.alloc _) _ _ (by simp)) (below_alloc (Below.refl _ _) _)) (below_alloc (Below.refl _ _) _)
  have hBB : W0.heap[Bs]? = some (.cells #[.slice A d.length c] 28 (0, 0)) := by rw [hW0, hBs]; exact blk_keep (heap_alloc_new' ((w.alloc _).alloc _) _ _ (by simp)) (below_alloc (Below.refl _ _) _)
  have hSB : W0.heap[Ss]? = some (.cells #[.int .i64 2048] 3 (0, 0)) := by rw [hW0, hSs]; exact heap_alloc_new' (((w.alloc _).alloc _).alloc _) _ _ (by simp)
  have HP : Aside0 (p2 = w.heap.size ∧ p6 = w.heap.size + 1 ∧ Bs = w.heap.size + 2 ∧ Ss = w.heap.size + 3) := ⟨hp2, hp6, hBs, hSs⟩
  have HSI : Aside0 (GI w p2 p6 W0.heap.size id A c d [] W0) := ⟨h2, Nat.le_refl _, hb1, .inl ⟨rfl, h6⟩⟩
  have HB1 := Aside0.mk hb1
  have HSZ := Aside0.mk hsz
  have H6 := Aside0.mk h6
  have HBB := Aside0.mk hBB
  have HSB := Aside0.mk hSB
  rw [← hSs, ← hBs, ← hp6, ← hW0]
  rw [show (Value.pointer (some ⟨w.heap.size, 0, none⟩)) = Value.pointer (some ⟨p2, 0, none⟩) by rw [hp2]]
  clear hW0 hp2 hp6 hBs hSs hb1 hsz h2 h6 hBB hSB
  refine (wpIn_wide (n := 6)).1 ?_
  refine loop_over (n := 6) (gf := 32) (lb := #[.pointer (some ⟨Bs, 0, none⟩), .pointer (some ⟨Ss, 0, none⟩)]) rfl (enters_of Try.func32 (by kernel_rfl) rfl) (encs := fun _ => #[.slice A d.length c, .bool true]) (Rx := RxG A d p6) (Kp := fun _ _ => True) (S := fun xs => xs = [()]) (Sp := fun _ => True) (fun _ => rfl)
    (fun W hW l J Jx W1 hW1 hJ _ hY h0 => pieces1_in (6 - 1) (by decide) l Bs Ss p6 A c d hl J Jx hY W1 (blk_keep (blk_keep HBB.out hW) hW1) (blk_keep (blk_keep HSB.out hW) hW1) ⟨Kd.C_below HR.out (HB1.out.trans ((hW.trans (hW1.mono hW.size)).mono HB1.out.size)), blk_keep (blk_keep H6.out hW) hW1⟩ h0)
    (GI w p2 p6 W0.heap.size id A c d) (fun _ _ _ => False) (fun s A B h hb => h.below hb) (fun c s A B h hb => h) (GI.turn HB1.out.size) (fun c s A l o o' h _ _ _ => h) (RxG.turn (fun h0 ad e => Nat.lt_of_lt_of_le (HA.out h0 ad e) HB1.out.size)) (fun A B C h h' => trivial) (fun A l o o' hl h hc => trivial)
    HSI.out ?a1 ?assign ?body ?done ?stop
  case assign =>
    intro l x W K hK
    gi_wp2
    exact hK
  case stop =>
    intro D cc pre W hD _ h
    exact h.elim
  case body =>
    rintro l pre x W ⟨h2, hbs, hbw, h4⟩ ⟨hC, h6⟩
    have hpre : pre = [] := by
      rcases h4 with ⟨e, _⟩ | ⟨e, A1, c1, h, hq⟩
      · exact e
      · rw [h6] at h
        injection h with h
        injection h with h
        have := congrArg (fun a => a.toList) h
        simp at this
        omega
    subst hpre
    cases x
    clear h4
    have hZ := HSZ.out
    have hP := HP.out
    have HPC : Aside0 (w.heap.size ≤ p6 ∧ p2 ≠ p6 ∧ p6 < W0.heap.size) := ⟨by omega⟩
    have HH2 := Aside0.mk h2
    have HH6 := Aside0.mk h6
    have HBS := Aside0.mk hbs
    have HBW := Aside0.mk hbw
    have HCD := Aside0.mk hC
    obtain ⟨c20, c21, f20, f21⟩ := two_cells2 h2
    obtain ⟨c6, f6⟩ := one_cell h6
    have he : ∀ w : World, (binOp .eql 28 (.slice none 0 0) (.slice none 0 0)).run Try.prog w = .ok (.bool true) w := fun _ => rfl
    obtain ⟨D, hD⟩ : ∃ D, D = d.length := ⟨_, rfl⟩
    have HD := Aside0.mk hD
    obtain ⟨N, hN⟩ : ∃ N, N = 4 + D := ⟨_, rfl⟩
    have g1 : (4 : Int) + (D : Int) = (N : Int) := by omega
    have g2 : IntKind.i64.wrap ((4 : Int) + (D : Int)) = (N : Int) := by rw [IntWalk.i64_in _ (by omega)]; omega
    have g3 : IntKind.i64.wrap (N : Int) = (N : Int) := IntWalk.i64_in _ (by omega)
    have g4 : (N : Int) / 256 = 0 := by omega
    have g5 : IntKind.u8.wrap (N : Int) = (N : Int) := by rw [IntKind.wrap_u8]; omega
    have g6 : (N : Int) % 256 = (N : Int) := by omega
    have hD10 : D ≤ 10 := by omega
    have HG : Aside0 ([0, (N : Int), id / 256, id % 256] ++ d = gdsB id d) := ⟨by unfold gdsB; rw [← hD, ← g1, Int.add_comm]⟩
    have HI8 : Aside0 (0 ≤ id ∧ id < 65536) := ⟨hi0, hi1⟩
    have HBW1 : Aside0 (∀ W3, Below W.heap.size W W3 → W3.cell? ⟨p6, 0, none⟩ = some (.slice none 0 0) ∧ W3.frozen? ⟨p6, 0, none⟩ = false) := ⟨fun W3 hW => one_cell (blk_keep HH6.out hW)⟩
    have hba : Below W.heap.size W (W.alloc (.cells #[.int .u8 0, .int .u8 0] 5)) := below_alloc (Below.refl _ _) _
    obtain ⟨d20, d21, _, _⟩ := two_cells2 (blk_keep h2 hba)
    obtain ⟨d6, e6⟩ := one_cell (blk_keep h6 hba)
    rw [← hD]
    rw [← hD] at c21 d21
    clear h2 h6 hbs hbw hC hZ hP hD hN hl hl2 hl3 hba
    gi_wp2_with (first
      | (gi_at_builtin; refine in_app W.heap.size rfl (.tmp 49) (.tmp 57) rfl (.slice (some ⟨W.heap.size, 0, none⟩) 2 2) [0, 0] [id / 256, id % 256] (some ⟨W.heap.size + 1, 0, none⟩) 2 2 4 rfl rfl rfl rfl ((QB.of_OB (ob_new W W.heap.size W.heap.size [0, 0] rfl (Nat.le_refl _) (by decide))).below (below_alloc (Below.refl _ _) _)) (block_reads [id / 256, id % 256] (heap_alloc_new' (W.alloc (.cells (nums .u8 [0, 0]).toArray 5)) _ _ (by simp)) (by simp)) (by simp; omega) (by simp) ?_; intro A1 c1 w1 hq hg hn; obtain ⟨_, g, off, rfl, hgb⟩ := hq.pos (by decide); have hb1 : Below W.heap.size W w1 := (below_alloc (below_alloc (Below.refl _ _) _) _).grown hg (by simp; omega) (fun k e => by injection e with e; dsimp only at e; omega); obtain ⟨x0, y0, hq1⟩ := QB.set hq (j := 0) (by simp) 0; obtain ⟨x1, y1, hq2⟩ := QB.set hq1 (j := 1) (by simp) (N : Int); obtain ⟨x1', y1', _⟩ := QB.set hq (j := 1) (by simp) 0; have x0 : w1.cell? ⟨g, off, none⟩ = some (.int .u8 0) := x0; have y0 : w1.frozen? ⟨g, off, none⟩ = false := y0; have x1' : w1.cell? ⟨g, off + 1, none⟩ = some (.int .u8 0) := x1'; have y1' : w1.frozen? ⟨g, off + 1, none⟩ = false := y1'; have x1 : (w1.setCell ⟨g, off, none⟩ (.int .u8 0)).cell? ⟨g, off + 1, none⟩ = some (.int .u8 0) := x1; have y1 : (w1.setCell ⟨g, off, none⟩ (.int .u8 0)).frozen? ⟨g, off + 1, none⟩ = false := y1; have HQ2 := Aside0.mk hq2; have HB1 : Aside0 (Below W.heap.size W ((w1.setCell ⟨g, off, none⟩ (.int .u8 0)).setCell ⟨g, off + 1, none⟩ (.int .u8 N))) := ⟨(hb1.setCell (p := ⟨g, off, none⟩) hgb _).setCell (p := ⟨g, off + 1, none⟩) hgb _⟩; have HK1 := Aside0.mk hb1; have z6 := HBW1.out _ HB1.out; clear hq hg hn hq1 hq2 hb1 hgb)
      | (gi_at_builtin; refine in_app W.heap.size rfl (.tmp 77) (.tmp 78) rfl (.slice none 0 0) [] [0, (N : Int), id / 256, id % 256] (some ⟨g, off, none⟩) 4 c1 4 rfl rfl rfl rfl (QB.nil _ _) (by have := HQ2.out.C; exact this) HB1.out.size (by simp) ?_; intro A2 c2 w2 hq hg hn; have hb2 : Below W.heap.size W w2 := HB1.out.grown hg HB1.out.size (fun k e => (nomatch e)); have HQ3 := Aside0.mk hq; have HB3 := Aside0.mk hb2; clear hq hg hn hb2)
      | (gi_at_builtin; refine in_app W.heap.size rfl (.tmp 79) (.tmp 80) rfl (.slice A2 4 c2) [0, (N : Int), id / 256, id % 256] d A D c (4 + D) HD.out (by rw [HD.out]; rfl) rfl rfl HQ3.out (Kd.C_below HCD.out HB3.out) HB3.out.size (by rw [← HD.out]; simp; omega) ?_; intro A3 c3 w3 hq hg hn; have hb3 : Below W.heap.size W w3 := HB3.out.grown hg HB3.out.size (fun k e => (HQ3.out.block e).1); have HQ4 := Aside0.mk hq; have HB4 := Aside0.mk hb3; obtain ⟨z7, z8⟩ := HBW1.out _ hb3; clear hq hg hn hb3))
    have hq4 := HQ4.out
    rw [HG.out] at hq4
    rw [HD.out] at hq4 ⊢
    exact round_close HPC.out HH2.out HH6.out HBS.out HBW.out HB4.out ⟨HB4.out.size, fun k o h _ => blk_keep h HB4.out⟩ (hq4.lower HBS.out)
  case done =>
    rintro D xs W hD rfl ⟨h2, hbs, hbw, h4⟩ hK
    obtain ⟨A1, c1, h6, hq⟩ : ∃ A1 c1, W.heap[p6]? = some (.cells #[.slice A1 (4 + d.length) c1] 28 (0, 0)) ∧ QB W W0.heap.size (.slice A1 (4 + d.length) c1) (gdsB id d) := by
      rcases h4 with ⟨e, _⟩ | ⟨_, h⟩
      · cases e
      · exact h
    obtain ⟨c6, f6⟩ := one_cell h6
    have HQ := Aside0.mk hq
    have HK := Aside0.mk hK
    have HBW := Aside0.mk hbw
    have HDD : Aside0 (w.heap.size ≤ D) := ⟨Nat.le_trans HB1.out.size hD⟩
    clear h2 hbs hbw h4 hK h6 hq hD
    dsimp only
    go_wp2
    refine ⟨by simp, .inl ⟨_, _, rfl, run_takeDeferred HK.out, ?_⟩⟩
    refine ⟨.tuple #[.slice A1 (4 + d.length) c1, .int .i64 0], by first | exact results_tmp2 rfl _ _ _ | simp [results, Try.results18, go_sem], ?_⟩
    exact ⟨A1, c1, rfl, (turn_q HQ.out HK.out rfl).lower HB1.out.size, turn_below HBW.out (Nat.le_refl _) HDD.out _⟩
end Go.Proofs.YtpkclecgaheplaaR.Oct
