
import Derived.Test.YtobljkhidgbeoaaZ01
import Derived.Test.YtobljkhidgbeoaaZ26
namespace Go.Proofs.Ytobljkhidgbeoaa.Oct
open Go.RowKit Go.Proofs.YtobljkhidgbeoaaW.PrintWords Go.Proofs.Ytobljkhidgbeoaa.M
set_option linter.unusedVariables false
set_option linter.unusedSimpArgs false


theorem put_bad (w : World) (v n : Int) (h : n < 1 ∨ 8 < n) : Calls Try.prog 34 #[.int .u64 v, .int .i64 n] w (RetPut w v n) := by
  have hp : putM v n = ([], 1) := by unfold putM; rw [if_pos h]
  rcases h with h | h
  all_goals
    go_enter Try.func34, Try.ntmps34
    go_wp2
    go_ret2
    exact ⟨.slice none 0 0, by rw [hp]; rfl, by rw [hp]; exact OB.nil _ _, Below.refl _ _⟩

theorem put_wide (w : World) (v : Int) (n : Nat) (hn0 : 1 ≤ n) (hn : n < 8) (h : 0 < v / 2 ^ (8 * n)) : Calls Try.prog 34 #[.int .u64 v, .int .i64 n] w (RetPut w v n) := by
  have hp : putM v n = ([], 10) := by unfold putM; rw [if_neg (by omega), if_pos ⟨by omega, by rw [Int.toNat_natCast]; exact h⟩]
  go_enter Try.func34, Try.ntmps34
  go_wp2
  go_ret2
  exact ⟨.slice none 0 0, by rw [hp]; rfl, by rw [hp]; exact OB.nil _ _, Below.refl _ _⟩

set_option maxHeartbeats 400000 in
theorem put_fits (w : World) (v : Int) (n : Nat) (hn0 : 1 ≤ n) (hn : n ≤ 8) (h : (n < 8 ∧ ¬ 0 < v / 2 ^ (8 * n)) ∨ n = 8) : Calls Try.prog 34 #[.int .u64 v, .int .i64 n] w (RetPut w v n) := by
  have hp : putM v n = (beB v n, 0) := by
    unfold putM
    rw [if_neg (by omega), if_neg, Int.toNat_natCast]
    rintro ⟨h1, h2⟩
    rw [Int.toNat_natCast] at h2
    rcases h with h | h
    · exact h.2 h2
    · omega
  have HP := Aside0.mk hp
  clear hp
  have hmk := print_make 45 5 .u8 1 Try.underlying45 info_u8 (by omega) n (by omega)
  rcases h with ⟨h1, h2⟩ | h
  all_goals
    try (have H8 := Aside0.mk h; have h8 : ¬ (n : Int) < 8 := by omega
         clear h)
    go_enter Try.func34, Try.ntmps34
    go_wp2
    clear hmk
    go_loopw [7, 27] (fun _ v27 wr => ∃ (i : Nat), i ≤ n ∧ v27 = .int .i64 i ∧ Aside0 (OB wr w.heap.size (.slice (some ⟨w.heap.size, 0, none⟩) n n) (bePart v n i)) ∧ Aside0 (Below w.heap.size w wr)) (fun _ v _ => n - (intOf v).toNat)
    case atStart =>
      refine ⟨0, by omega, rfl, ⟨?_⟩, ⟨below_alloc (Below.refl _ _) _⟩⟩
      have := own_made w w.heap.size 5 .u8 n (Nat.le_refl _) (by omega)
      unfold OB
      rw [bePart_length, bePart_zero]
      exact this
    case round =>
      obtain ⟨i, hi, rfl, HO, HB⟩ := hrel
      by_cases hlt : i < n
      · have hbl := bePart_length v n i
        have HO' : wr.ownsRow w.heap.size 5 1 (.slice (some ⟨w.heap.size, 0, none⟩) n n) n (nums .u8 (bePart v n i)) := by have := HO.out; unfold OB at this; rw [hbl] at this; exact this
        have hput := own_store HO' ((n - 1 - i : Nat) : Int) (v / 2 ^ (8 * i) % 256)
        obtain ⟨hc, hf⟩ := own_at HO' ((n - 1 - i : Nat) : Int) (by omega) (by omega)
        rw [Int.toNat_natCast] at hc hf hput
        rw [bePart_step v n i hlt] at hput
        have HPUT := Aside0.mk hput
        have HBL := Aside0.mk hbl
        have HOw := Aside0.mk HO'
        clear hput hbl HO'
        have e1 : ((n : Int) - 1 - (i : Int)).toNat = n - 1 - i := by omega
        go_wp2
        refine ⟨⟨i + 1, by omega, by go_num, ⟨?_⟩, ⟨HB.out.setCell (Nat.le_refl _) _⟩⟩, by simp [intOf]; omega⟩
        have := HPUT.out.1
        unfold OB
        rw [bePart_length]
        exact this
      · obtain rfl : i = n := by omega
        go_wp2
        go_ret2
        refine ⟨_, by rw [HP.out]; rfl, ?_, HB.out⟩
        rw [HP.out, ← bePart_full v i]
        have := HO.out
        exact this

theorem put_calls (w : World) (v n : Int) (hv0 : 0 ≤ v) (hv : v < 18446744073709551616) : Calls Try.prog 34 #[.int .u64 v, .int .i64 n] w (RetPut w v n) := by
  by_cases h : n < 1 ∨ 8 < n
  · exact put_bad w v n h
  · obtain ⟨m, rfl⟩ := Int.eq_ofNat_of_zero_le (show 0 ≤ n by omega)
    by_cases h8 : m < 8
    · by_cases h2 : 0 < v / 2 ^ (8 * m)
      · exact put_wide w v m (by omega) h8 h2
      · exact put_fits w v m (by omega) (by omega) (.inl ⟨h8, h2⟩)
    · exact put_fits w v m (by omega) (by omega) (.inr (by omega))

end Go.Proofs.Ytobljkhidgbeoaa.Oct
/- The resource: Write. -/
namespace Go.Proofs.Ytobljkhidgbeoaa.Oct
open Go.RowKit Go.Proofs.YtobljkhidgbeoaaW.PrintWords Go.Proofs.Ytobljkhidgbeoaa.M
set_option linter.unusedVariables false
set_option linter.unusedSimpArgs false
/-- a row of bytes of the call's own -/
def bRow (v : Value) (xs : List Int) : Part := row 5 1 v xs.length (nums .u8 xs)
theorem bRow_q {v : Value} {xs : List Int} {W : World} {F : Nat → Prop} (h : (bRow v xs).P W F) : QB W 0 v xs := h.1
theorem bRow_C {A : Option Addr} {n c : Nat} {xs : List Int} {W : World} {F : Nat → Prop} (h : (bRow (.slice A n c) xs).P W F) : Kd.C (Kd.int .u8) W A xs.length xs := by
  obtain ⟨A', c', e, _, _, hr⟩ := (bRow_q h).form
  injection e with e1 _ _
  rw [e1]
  exact hr
theorem bRow_nil (W : World) (F : Nat → Prop) : (bRow (.slice none 0 0) []).P W F := row_nil W F _ _
theorem St.new_bytes {w W W' : World} {F : Nat → Prop} {l : List Part} {v : Value} {xs : List Int} (h : St w F W l) (hb : Below W.heap.size W W') (ho : OB W' W.heap.size v xs) : St w F W' (bRow v xs :: l) :=
  h.new_row hb ((OwnAt.of_row ho).lower (Nat.zero_le _)) (fun k hk => ((OwnAt.of_row ho).block hk).1)
theorem St.grown_bytes {w W W' : World} {F : Nat → Prop} {l : List Part} {v v' : Value} {xs ys : List Int} (h : St w F W (bRow v xs :: l)) (hr : QB W' 0 v' ys) (hg : W.grownBy W' v.ownBlock) (hb : v'.ownBlock = v.ownBlock ∨ ∃ b, v'.ownBlock = some b ∧ W.heap.size ≤ b) : St w F W' (bRow v' ys :: l) :=
  St.grown h hr hg hb
/-- a call that changes nothing that was there -/
theorem St.fresh {P : Program} {f : Nat} {args : Array Value} {w W : World} {F : Nat → Prop} {l : List Part} {R : Ending → List Part → Prop} (h : St w F W l) (hc : Calls P f args W (Ret W (fun _ => False) R)) :
    Calls P f args W (fun e W' => ∃ l', R e l' ∧ St w F W' (l' ++ l)) := by
  refine hc.mono ?_
  rintro e W' ⟨l', hr, hs, hk⟩
  obtain ⟨F1, _, _, _, h3⟩ := St.part (l1 := []) h
  exact ⟨l', hr, h3 l' W' (hs.mono (fun k hk _ => hk.elim (fun h => h.elim) (fun h => .inr h))) (hk.mono (fun k _ h => h.elim))⟩
/-- a change as bytes -/
def chB (c : Ch) : List Int := [c.kind] ++ (beB c.key 8 ++ beB c.val 8)
def wrB (l : List Ch) : List Int := l.flatMap chB
theorem chB_len (c : Ch) : (chB c).length = 17 := by simp [chB, beB_length]
theorem wrB_len (l : List Ch) : (wrB l).length = l.length * 17 := by
  induction l with
  | nil => rfl
  | cons c l ih => show (chB c ++ wrB l).length = _; rw [List.length_append, chB_len, ih, List.length_cons]; omega
theorem wrB_take (l : List Ch) (k : Nat) (hk : k < l.length) : wrB (l.take (k + 1)) = wrB (l.take k) ++ [(l.getD k ch0).kind] ++ beB (l.getD k ch0).key 8 ++ beB (l.getD k ch0).val 8 := by
  unfold wrB
  rw [List.take_succ_eq_append_getElem hk, List.flatMap_append, List.getD_eq_getElem?_getD, List.getElem?_eq_getElem hk]
  simp [chB]
def chOk (c : Ch) : Prop := 1 ≤ c.kind ∧ c.kind ≤ 4 ∧ 0 ≤ c.key ∧ c.key ≤ 4611686018427387904 ∧ U64 c.val
def WrR (l : List Ch) (e : Ending) (l' : List Part) : Prop := ∃ v, e = .returned (.tuple #[v, .int .i64 0]) ∧ l' = [bRow v (wrB l)]
theorem putM_8 (v : Int) : putM v 8 = (beB v 8, 0) := by unfold putM; rw [if_neg (by decide), if_neg (by simp)]; rfl
set_option maxRecDepth 100000 in
set_option maxHeartbeats 8000000 in
theorem reswrite_calls (w : World) (l : List Ch) (A : Option Addr) (cp : Nat) (h : ChAt w A l) (hl : l.length ≤ 48) (hk : ∀ c ∈ l, chOk c) :
    Calls Try.prog 10 #[.slice A l.length cp] w (Ret w (fun _ => False) (WrR l)) := by
  have HST0 : Aside0 (St w (fun _ => False) w []) := ⟨St.start (Sep.nil _ _)⟩
  have HL := Aside0.mk h
  have HK := Aside0.mk hk
  obtain ⟨m, hm⟩ : ∃ m, m = l.length := ⟨_, rfl⟩
  have HM := Aside0.mk hm
  rw [← hm]
  have hm2 : m ≤ 48 := by omega
  have hm3 : ¬ (48 : Int) < (m : Int) := by omega
  clear h hk hl hm
  go_enter Try.func10, Try.ntmps10
  go_wp2_with fail
  go_loopw [4, 16] (fun v4 v16 wr => ∃ k : Nat, k ≤ m ∧ v16 = .int .i64 k ∧ Aside0 (St w (fun _ => False) wr [bRow v4 (wrB (l.take k))])) (fun _ v _ => m - (intOf v).toNat)
  case atStart => exact ⟨0, by omega, rfl, ⟨HST0.out.free (bRow_nil _ _)⟩⟩
  case round =>
    obtain ⟨k, hk, rfl, HST⟩ := hrel
    by_cases hlt : k < m
    · have hlt' : (k : Int) < (m : Int) := by omega
      have hkl : k < l.length := by rw [← HM.out]; exact hlt
      obtain ⟨ad, rfl, k0, k1, k2⟩ := (HL.out.below (HST.out.2.below (fun _ h => h))) k hkl
      have hnx := wrB_take l k hkl
      have hck := HK.out (l.getD k ch0) (by rw [List.getD_eq_getElem?_getD, List.getElem?_eq_getElem hkl]; exact List.getElem_mem hkl)
      obtain ⟨c, hc⟩ : ∃ c, c = l.getD k ch0 := ⟨_, rfl⟩
      rw [← hc] at k0 k1 k2 hnx hck
      have hxl : (wrB (l.take k)).length ≤ 1000 := by rw [wrB_len, List.length_take]; omega
      obtain ⟨xs, hxs⟩ : ∃ xs, xs = wrB (l.take k) := ⟨_, rfl⟩
      rw [← hxs] at HST hnx hxl
      obtain ⟨A4, c4, rfl, _, _⟩ := row_form (HST.out.1.one).1
      obtain ⟨yk, hyk⟩ : ∃ yk, yk = beB c.key 8 := ⟨_, rfl⟩
      obtain ⟨yv, hyv⟩ : ∃ yv, yv = beB c.val 8 := ⟨_, rfl⟩
      have HYKL : Aside0 (yk.length = 8) := ⟨by rw [hyk, beB_length]⟩
      have HYVL : Aside0 (yv.length = 8) := ⟨by rw [hyv, beB_length]⟩
      rw [← hyk, ← hyv] at hnx
      obtain ⟨z1, hz1⟩ : ∃ z1, z1 = xs ++ [c.kind] := ⟨_, rfl⟩
      obtain ⟨z2, hz2⟩ : ∃ z2, z2 = z1 ++ yk := ⟨_, rfl⟩
      rw [← hz1, ← hz2] at hnx
      have HZ1L : Aside0 (z1.length = xs.length + 1) := ⟨by rw [hz1]; simp⟩
      have HZ2L : Aside0 (z2.length = z1.length + yk.length) := ⟨by rw [hz2]; simp⟩
      have HZ1 := Aside0.mk hz1
      have HZ2 := Aside0.mk hz2
      have HNX := Aside0.mk hnx
      have HXL := Aside0.mk hxl
      obtain ⟨kd, ky, vl⟩ := c
      obtain ⟨g1, g2, g3, g4, g5, g6⟩ := hck
      dsimp only at k0 k1 k2 HZ1 hyk hyv g1 g2 g3 g4 g5 g6
      have p1 : ¬ kd < 1 := by omega
      have p2 : ¬ 4 < kd := by omega
      have p3 : ¬ ky < 0 := by omega
      have p4 : IntKind.u64.wrap ky = ky := IntWalk.u64_in _ (by omega)
      have p5 : IntKind.u8.wrap kd = kd := IntWalk.u8_in _ (by omega)
      have HPK : Aside0 (∀ W, Calls Try.prog 34 #[.int .u64 ky, .int .i64 8] W fun e W' => ∃ r, e = .returned (.tuple #[r, .int .i64 0]) ∧ OB W' W.heap.size r yk ∧ Below W.heap.size W W') := ⟨fun W => by
        have := put_calls W ky 8 (by omega) (by omega)
        unfold RetPut at this
        rw [putM_8, ← hyk] at this
        exact this⟩
      have HPV : Aside0 (∀ W, Calls Try.prog 34 #[.int .u64 vl, .int .i64 8] W fun e W' => ∃ r, e = .returned (.tuple #[r, .int .i64 0]) ∧ OB W' W.heap.size r yv ∧ Below W.heap.size W W') := ⟨fun W => by
        have := put_calls W vl 8 (by omega) (by omega)
        unfold RetPut at this
        rw [putM_8, ← hyv] at this
        exact this⟩
      have HST1 : Aside0 (St w (fun _ => False) (wr.alloc (.cells #[.int .i64 kd, .int .i64 ky, .int .u64 vl] 94)) [pt wr.heap.size (.cells #[.int .i64 kd, .int .i64 ky, .int .u64 vl] 94 (0, 0)), bRow (.slice A4 xs.length c4) xs]) := ⟨HST.out.alloc _⟩
      obtain ⟨x0, x1, x2, _⟩ := heap3 HST1.out.heap
      clear hz1 hz2 hc hnx hxl hxs hyk hyv g1 g2 g3 g4 g5 g6 hkl HST
      go_wp2_with fail
      generalize wr.heap.size = b9 at HST1 ⊢
      generalize wr.alloc _ = W1 at HST1 ⊢
      clear x0 x1 x2
      refine (HPK.out W1).mono ?_
      rintro e W2 ⟨v7, rfl, ho7, hb7⟩
      have HST2 := Aside0.mk (HST1.out.new_bytes hb7 ho7)
      obtain ⟨x0, x1, x2, _⟩ := heap3 (HST2.out.pick [1] (by decide)).heap
      clear ho7 hb7 HST1
      go_wp2_with fail
      refine (HPV.out W2).mono ?_
      rintro e W3 ⟨v9, rfl, ho9, hb9⟩
      have HST3 := Aside0.mk (HST2.out.new_bytes hb9 ho9)
      clear ho9 hb9 HST2 x0 x1 x2
      obtain ⟨x0, x1, x2, _⟩ := heap3 (HST3.out.pick [2] (by decide)).heap
      obtain ⟨A7, c7, rfl, _, _, _⟩ := (bRow_q (HST3.out.pick [1] (by decide)).1.one).form
      obtain ⟨A9, c9, rfl, _, _, _⟩ := (bRow_q (HST3.out.pick [0] (by decide)).1.one).form
      have HST4 : Aside0 (St w (fun _ => False) (W3.alloc (.cells (nums .u8 [kd]).toArray 5)) [bRow (.slice A4 xs.length c4) xs, pt W3.heap.size (.cells (nums .u8 [kd]).toArray 5 (0, 0)), bRow (.slice A7 yk.length c7) yk, bRow (.slice A9 yv.length c9) yv]) := ⟨(HST3.out.alloc _).pick [4, 0, 2, 1] (by decide)⟩
      have HR4 : Aside0 (Kd.C (Kd.int .u8) (W3.alloc (.cells (nums .u8 [kd]).toArray 5)) (some ⟨W3.heap.size, 0, none⟩) 1 [kd]) := ⟨block_reads [kd] (heap_alloc_new W3 _) (by simp)⟩
      clear HST3
      go_wp2_with (first
        | ((with_reducible refine gate_dst (N := 51) rfl ?_); at_builtin; refine app_q 0 rfl (.tmp 46) (.tmp 50) rfl (.slice A4 xs.length c4) xs [kd] (some ⟨W3.heap.size, 0, none⟩) 1 1 rfl rfl rfl (bRow_q (HST4.out.pick [0] (by decide)).1.one) HR4.out (Nat.zero_le _) (by have := HXL.out; simp; omega) ?_; intro v5 w5 ho hg hn; rw [← HZ1.out] at ho; have HST5 := Aside0.mk (HST4.out.grown_bytes ho hg hn); clear ho hg hn; obtain ⟨A5, c5, rfl, _, _⟩ := row_form (HST5.out.pick [0] (by decide)).1.one.1; have HR5 := Aside0.mk (bRow_C (HST5.out.pick [2] (by decide)).1.one))
        | ((with_reducible refine gate_dst (N := 53) rfl ?_); at_builtin; refine app_q 0 rfl (.tmp 51) (.tmp 52) rfl (.slice A5 z1.length c5) z1 yk A7 yk.length c7 rfl rfl rfl (bRow_q (HST5.out.pick [0] (by decide)).1.one) HR5.out (Nat.zero_le _) (by have := HXL.out; have := HYKL.out; have := HZ1L.out; omega) ?_; intro v6 w6 ho hg hn; rw [← HZ2.out] at ho; have HST6 := Aside0.mk (HST5.out.grown_bytes ho hg hn); clear ho hg hn; obtain ⟨A6, c6, rfl, _, _⟩ := row_form (HST6.out.pick [0] (by decide)).1.one.1; have HR6 := Aside0.mk (bRow_C (HST6.out.pick [3] (by decide)).1.one))
        | ((with_reducible refine gate_dst (N := 55) rfl ?_); at_builtin; refine app_q 0 rfl (.tmp 53) (.tmp 54) rfl (.slice A6 z2.length c6) z2 yv A9 yv.length c9 rfl rfl rfl (bRow_q (HST6.out.pick [0] (by decide)).1.one) HR6.out (Nat.zero_le _) (by have := HXL.out; have := HYKL.out; have := HYVL.out; have := HZ1L.out; have := HZ2L.out; omega) ?_; intro v8 w8 ho hg hn; have HST8 := Aside0.mk (HST6.out.grown_bytes ho hg hn); clear ho hg hn))
      exact ⟨⟨k + 1, by omega, by go_num, ⟨by rw [HNX.out]; exact HST8.out.pick [0] (by decide)⟩⟩, by simp [intOf]; omega⟩
    · obtain rfl : k = m := by omega
      have hall : l.take k = l := by rw [HM.out, List.take_length]
      rw [hall] at HST
      clear hall
      go_wp2_with fail
      go_ret2
      exact HST.out.ret ⟨_, rfl, rfl⟩
end Go.Proofs.Ytobljkhidgbeoaa.Oct
namespace Go.Proofs.Ytobljkhidgbeoaa.Oct
open Go.RowKit Go.Proofs.YtobljkhidgbeoaaW.PrintWords Go.Proofs.Ytobljkhidgbeoaa.M
set_option linter.unusedVariables false
set_option linter.unusedSimpArgs false

theorem u64_orb {v x : Int} (h0 : 0 ≤ v) (h : v < 72057594037927936) (hx0 : 0 ≤ x) (hx : x < 256) : Go.bits .or .u64 (v * 256) x = v * 256 + x :=
  bits_join .u64 64 (by decide) (fun n h0 h1 => by simp [IntKind.wrap, IntKind.bits, IntKind.signed]; omega) 8 _ _ (by omega) (by omega) (by omega) hx0 (by omega) (by omega)

theorem getM_bad {xs : List Int} (h : xs.length < 1 ∨ 8 < xs.length) : getM xs = (0, 1) := by unfold getM; rw [if_pos h]

theorem getM_good {xs : List Int} (h1 : 1 ≤ xs.length) (h2 : xs.length ≤ 8) : getM xs = (getF xs, 0) := by unfold getM; rw [if_neg (by omega)]

set_option maxHeartbeats 400000 in
theorem get_calls (w : World) (A : Option Addr) (c : Nat) (xs : List Int) (hr : Kd.C (Kd.int .u8) w A xs.length xs) (hx : Bytes xs) :
    Calls Try.prog 39 #[.slice A xs.length c] w fun e w' => e = .returned (.tuple #[.int .u64 (getM xs).1, .int .i64 (getM xs).2]) ∧ w' = w := by
  have hlen : xs.length ≤ 9223372036854775807 := hr.2.1
  have HR := Aside0.mk hr
  have HX := Aside0.mk hx
  clear hr hx
  by_cases h1 : (xs.length : Int) < 1
  · go_enter Try.func39, Try.ntmps39
    go_wp2
    go_ret2
    exact ⟨by rw [getM_bad (.inl (by omega))]; rfl, rfl⟩
  by_cases h2 : 8 < (xs.length : Int)
  · go_enter Try.func39, Try.ntmps39
    go_wp2
    go_ret2
    exact ⟨by rw [getM_bad (.inr (by omega))]; rfl, rfl⟩
  have HM := Aside0.mk (getM_good (xs := xs) (by omega) (by omega))
  go_enter Try.func39, Try.ntmps39
  go_wp2
  go_loop [4, 6, 17] (fun v4 _ v17 => ∃ (k : Nat) (v : Int), k ≤ xs.length ∧ v4 = .int .u64 v ∧ v17 = .int .i64 k ∧ Aside0 (v = getF (xs.take k))) (fun _ _ v => xs.length - (intOf v).toNat)
  case atStart => exact ⟨0, 0, by omega, rfl, rfl, ⟨rfl⟩⟩
  case round =>
    obtain ⟨k, v, hk, rfl, rfl, HA⟩ := hrel
    by_cases hlt : k < xs.length
    · obtain ⟨ad, e, hcell⟩ := C_byte HR.out hlt
      cases e
      have hb := HX.out.getD k
      obtain ⟨hv0, hv1⟩ : 0 ≤ v ∧ v < 72057594037927936 := by rw [HA.out]; exact getF_small HX.out (by omega) (by omega)
      have HS := Aside0.mk (getF_take xs k hlt)
      obtain ⟨x, hx⟩ : ∃ x, x = xs.getD k 0 := ⟨_, rfl⟩
      rw [← hx] at hb hcell
      have HX' := Aside0.mk hx
      clear hx
      obtain ⟨hb0, hb1⟩ := hb
      have hor := u64_orb hv0 hv1 hb0 hb1
      go_wp2
      go_round
      case rel => exact ⟨k + 1, v * 256 + x, by omega, by go_num, by go_num, ⟨by rw [HS.out, ← HX'.out, ← HA.out, Int.mul_comm]⟩⟩
      case measure => simp [intOf]; omega
    · obtain rfl : k = xs.length := by omega
      go_wp2
      go_ret2
      refine ⟨?_, rfl⟩
      have := HA.out
      rw [List.take_length] at this
      rw [HM.out, ← this]
      rfl

end Go.Proofs.Ytobljkhidgbeoaa.Oct
