import Derived.Test.YtdagpeencafheaaOctM
namespace Go.Proofs.Ytdagpeencafheaa.Oct
open Go.RowKit Go.Proofs.YtdagpeencafheaaW.PrintWords Go.Proofs.Ytdagpeencafheaa.M
set_option linter.unusedVariables false
set_option linter.unusedSimpArgs false
/-- a row of texts -/
abbrev partK : Kd (List Int) := Kd.slice 5 (Kd.int .u8)
def partH (p : List Int) : List Int := [(p.length : Int) / 256, (p.length : Int) % 256]
def joinB (l : List (List Int)) : List Int := l.flatMap fun p => partH p ++ p
def joinM (l : List (List Int)) : List Int × Int := if 1000 < l.length ∨ ∃ p ∈ l, 65535 < p.length then ([], 2) else (joinB l, 0)
theorem part_at {W : World} {A : Option Addr} {n : Nat} {l : List (List Int)} (h : partK.C W A n l) {k : Nat} (hk : k < n) :
    ∃ ad B c, A = some ad ∧ W.cell? (ad.add k) = some (.slice B (l.getD k []).length c) ∧ (l.getD k []).length ≤ c ∧ Kd.C (Kd.int .u8) W B (l.getD k []).length (l.getD k []) := by
  obtain ⟨ad, c, e, hs, hK, hcell⟩ := Kd.C_get h [] (k : Int) (by omega) (by omega)
  simp only [Int.toNat_natCast] at hK hcell
  obtain ⟨B, cc, rfl, hl, hr⟩ := hK
  have := hcell 0 _ rfl
  simp only [Nat.add_zero] at this
  rw [show k * partK.sz = k from Nat.mul_one k] at this
  exact ⟨ad, B, cc, e, this, hl, hr⟩
theorem long_calls (w : World) (B : Option Addr) (n c : Nat) : Calls Try.prog 32 #[.slice B n c] w fun e w' => e = .returned (.bool (decide (65535 < n))) ∧ w' = w := by
  by_cases h : 65535 < n
  · go_enter Try.func32, Try.ntmps32
    go_wp2
    go_ret
    exact ⟨by simp; omega, rfl⟩
  · go_enter Try.func32, Try.ntmps32
    go_wp2
    go_ret
    exact ⟨by simp; omega, rfl⟩
theorem index_calls (w : World) (l : List (List Int)) (A : Option Addr) (c : Nat) (h : partK.C w A l.length l) :
    Calls Try.prog 36 #[.slice A l.length c, .func (.func 32) #[] #[]] w fun e w' => (∃ k : Int, e = .returned (.int .i64 k) ∧ ((k = -1 ∧ ¬ ∃ p ∈ l, 65535 < p.length) ∨ (0 ≤ k ∧ ∃ p ∈ l, 65535 < p.length))) ∧ w' = w := by
  have HL := Aside0.mk h
  have hll : l.length ≤ 9223372036854775807 := h.2.1
  clear h
  go_enter Try.func36, Try.ntmps36
  go_wp2_with fail
  go_loopw [5, 8] (fun _ v8 wr => ∃ (k : Nat), k ≤ l.length ∧ v8 = .int .i64 k ∧ wr = w ∧ Aside0 (∀ j, j < k → (l.getD j []).length ≤ 65535)) (fun _ v _ => l.length - (intOf v).toNat)
  case atStart => exact ⟨0, by omega, rfl, rfl, ⟨fun j hj => by omega⟩⟩
  case round =>
    obtain ⟨k, hk, rfl, rfl, HS⟩ := hrel
    by_cases hlt : k < l.length
    · obtain ⟨ad, B, d, rfl, hcell, _, _⟩ := part_at HL.out hlt
      have HM : Aside0 (l.getD k [] ∈ l) := ⟨by rw [List.getD_eq_getElem?_getD, List.getElem?_eq_getElem hlt]; exact List.getElem_mem hlt⟩
      obtain ⟨n, hn⟩ : ∃ n, n = (l.getD k []).length := ⟨_, rfl⟩
      rw [← hn] at hcell
      have HN := Aside0.mk hn
      clear hn
      go_wp2_with fail
      refine (long_calls _ B n d).mono ?_
      rintro e w1 ⟨rfl, rfl⟩
      by_cases h5 : 65535 < n
      · have hd : decide (65535 < n) = true := by simp [h5]
        rw [hd]
        clear hd
        go_wp2_with fail
        go_ret
        exact ⟨⟨k, rfl, .inr ⟨by omega, _, HM.out, by rw [← HN.out]; exact h5⟩⟩, rfl⟩
      · have hd : decide (65535 < n) = false := by simp [h5]
        rw [hd]
        clear hd
        have HS2 : Aside0 (∀ j, j < k + 1 → (l.getD j []).length ≤ 65535) := ⟨fun j hj => by
          by_cases hjk : j = k
          · rw [hjk, ← HN.out]; omega
          · exact HS.out j (by omega)⟩
        go_wp2_with fail
        refine ⟨⟨k + 1, by omega, by go_num, trivial, HS2⟩, by simp [intOf]; omega⟩
    · obtain rfl : k = l.length := by omega
      go_wp2_with fail
      go_ret
      refine ⟨⟨-1, rfl, .inl ⟨rfl, ?_⟩⟩, rfl⟩
      rintro ⟨p, hp, hl⟩
      obtain ⟨j, hj, rfl⟩ := List.getElem_of_mem hp
      have := HS.out j hj
      rw [List.getD_eq_getElem?_getD, List.getElem?_eq_getElem hj] at this
      simp at this
      omega
theorem contains_calls (w : World) (l : List (List Int)) (A : Option Addr) (c : Nat) (h : partK.C w A l.length l) :
    Calls Try.prog 31 #[.slice A l.length c, .func (.func 32) #[] #[]] w fun e w' => (∃ b : Bool, e = .returned (.bool b) ∧ (b = true ↔ ∃ p ∈ l, 65535 < p.length)) ∧ w' = w := by
  have HL := Aside0.mk h
  clear h
  go_enter Try.func31, Try.ntmps31
  go_wp2_with fail
  refine (index_calls _ l A c HL.out).mono ?_
  rintro e w1 ⟨⟨k, rfl, hk⟩, rfl⟩
  rcases hk with ⟨rfl, hk⟩ | ⟨h0, hk⟩
  · have HK := Aside0.mk hk
    clear hk
    go_wp2_with fail
    go_ret
    exact ⟨⟨_, rfl, ⟨fun h => (nomatch h), fun h => absurd h HK.out⟩⟩, rfl⟩
  · have HK := Aside0.mk hk
    clear hk
    go_wp2_with fail
    go_ret
    exact ⟨⟨_, rfl, ⟨fun _ => HK.out, fun _ => rfl⟩⟩, rfl⟩
theorem joinB_take (l : List (List Int)) (k : Nat) (h : k < l.length) : joinB (l.take (k + 1)) = joinB (l.take k) ++ partH (l.getD k []) ++ l.getD k [] := by
  unfold joinB
  rw [List.take_succ_eq_append_getElem h, List.flatMap_append]
  simp [List.getD_eq_getElem?_getD, List.getElem?_eq_getElem h]
theorem joinB_length (l : List (List Int)) (n : Nat) (hl : l.length ≤ n) (h : ∀ p ∈ l, p.length ≤ 65535) : (joinB l).length ≤ n * 65537 := by
  induction l generalizing n with
  | nil => simp [joinB]
  | cons p l ih =>
    obtain ⟨m, rfl⟩ : ∃ m, n = m + 1 := ⟨n - 1, by simp at hl; omega⟩
    have h1 := ih m (by simpa using hl) (fun q hq => h q (List.mem_cons_of_mem _ hq))
    have h2 := h p List.mem_cons_self
    have h3 : joinB (p :: l) = partH p ++ p ++ joinB l := by simp [joinB]
    rw [h3, List.length_append, List.length_append]
    simp [partH]
    omega
def RetJoin (w : World) (l : List (List Int)) (e : Ending) (w' : World) : Prop := ∃ r, e = .returned (.tuple #[r, .int .i64 (joinM l).2]) ∧ OB w' w.heap.size r (joinM l).1 ∧ Below w.heap.size w w'
set_option maxHeartbeats 2000000 in
theorem join_calls (w : World) (l : List (List Int)) (A : Option Addr) (c : Nat) (h : partK.C w A l.length l) :
    Calls Try.prog 22 #[.slice A l.length c] w (RetJoin w l) := by
  have HL := Aside0.mk h
  have hll : l.length ≤ 9223372036854775807 := h.2.1
  clear h
  by_cases hn : 1000 < l.length
  · have HJ : Aside0 (joinM l = ([], 2)) := ⟨by unfold joinM; rw [if_pos (.inl hn)]⟩
    go_enter Try.func22, Try.ntmps22
    go_wp2_with fail
    go_ret2
    exact ⟨.slice none 0 0, by rw [HJ.out]; rfl, by rw [HJ.out]; exact OB.nil _ _, Below.refl _ _⟩
  · go_enter Try.func22, Try.ntmps22
    go_wp2_with fail
    refine (contains_calls _ l A c HL.out).mono ?_
    rintro e w1 ⟨⟨b, rfl, hb⟩, rfl⟩
    cases b with
    | true =>
      have HJ : Aside0 (joinM l = ([], 2)) := ⟨by unfold joinM; rw [if_pos (.inr (hb.1 rfl))]⟩
      clear hb
      go_wp2_with fail
      go_ret2
      exact ⟨.slice none 0 0, by rw [HJ.out]; rfl, by rw [HJ.out]; exact OB.nil _ _, Below.refl _ _⟩
    | false =>
      have HS : Aside0 (∀ p ∈ l, p.length ≤ 65535) := ⟨fun p hp => by
        rcases Nat.lt_or_ge 65535 p.length with h | h
        · have := hb.2 ⟨p, hp, h⟩; cases this
        · exact h⟩
      have HJ : Aside0 (joinM l = (joinB l, 0)) := ⟨by unfold joinM; rw [if_neg]; rintro (h | ⟨p, hp, h⟩); (· exact hn h); (· have := HS.out p hp; omega)⟩
      clear hb
      go_wp2_with fail
      go_loopw [4, 6, 16] (fun v4 _ v16 wr => ∃ (k : Nat), k ≤ l.length ∧ v16 = .int .i64 k ∧ Aside0 (OB wr w1.heap.size v4 (joinB (l.take k))) ∧ Aside0 (Below w1.heap.size w1 wr)) (fun _ _ v _ => l.length - (intOf v).toNat)
      case atStart => exact ⟨0, by omega, rfl, ⟨OB.nil _ _⟩, ⟨Below.refl _ _⟩⟩
      case round =>
        obtain ⟨k, hk, rfl, HO, HB⟩ := hrel
        by_cases hlt : k < l.length
        · obtain ⟨ad, B, d, rfl, hcell0, _, hrd⟩ := part_at HL.out hlt
          have hcell := (HB.out.cell (World.block_lt_of_cell? _ _ hcell0)).trans hcell0
          clear hcell0
          have HM := Aside0.mk (joinB_take l k hlt)
          have hpl := HS.out (l.getD k []) (by rw [List.getD_eq_getElem?_getD, List.getElem?_eq_getElem hlt]; exact List.getElem_mem hlt)
          have hol := joinB_length (l.take k) k (by rw [List.length_take]; omega) (fun p hp => HS.out p (List.mem_of_mem_take hp))
          obtain ⟨q, hq⟩ : ∃ q, q = l.getD k [] := ⟨_, rfl⟩
          rw [← hq] at hcell hrd HM hpl
          clear hq
          have HRD := Aside0.mk hrd
          clear hrd
          obtain ⟨n, hn2⟩ : ∃ n, n = q.length := ⟨_, rfl⟩
          have HN := Aside0.mk hn2
          rw [← hn2] at hcell hpl
          clear hn2
          have q1 : IntKind.u8.wrap ((n : Int) / 256) = (n : Int) / 256 := by rw [IntKind.wrap_u8]; omega
          have q2 : IntKind.u8.wrap (n : Int) = (n : Int) % 256 := by rw [IntKind.wrap_u8]
          go_wp2_with (first
            | ((with_reducible refine gate_dst (N := 29) rfl ?_); at_builtin; refine app_bytes (W0 := w1) w1.heap.size rfl (.tmp 20) (.tmp 28) rfl _ (joinB (l.take k)) [(n : Int) / 256, (n : Int) % 256] (some ⟨wr.heap.size, 0, none⟩) 2 2 rfl rfl (HO.out.alloc _) (block_reads [(n : Int) / 256, (n : Int) % 256] (heap_alloc_new wr (.cells (nums .u8 [(n : Int) / 256, (n : Int) % 256]).toArray 5)) (by simp)) (below_alloc HB.out _) (below_alloc HB.out _).size ?aL ?_; (case aL => omega); intro v1 w2 ho1 hb1 _ _; have HO1 := Aside0.mk ho1; have HB1 := Aside0.mk hb1; clear ho1 hb1)
            | ((with_reducible refine gate_dst (N := 32) rfl ?_); at_builtin; refine app_bytes (W0 := w1) w1.heap.size rfl (.tmp 30) (.tmp 31) rfl v1 _ q B n d rfl rfl HO1.out (by rw [HN.out]; exact Kd.C_below HRD.out HB1.out) HB1.out HB1.out.size ?aL2 ?_; (case aL2 => rw [List.length_append]; simp; omega); intro v2 w3 ho2 hb2 _ _; have HO2 : Aside0 (OB w3 w1.heap.size v2 (joinB (l.take (k + 1)))) := ⟨by rw [HM.out]; unfold partH; rw [← HN.out]; exact ho2⟩; have HB2 := Aside0.mk hb2; clear ho2 hb2))
          refine ⟨⟨k + 1, by omega, by go_num, HO2, HB2⟩, by simp [intOf]; omega⟩
        · obtain rfl : k = l.length := by omega
          go_wp2_with fail
          go_ret2
          refine ⟨_, by rw [HJ.out]; rfl, ?_, HB.out⟩
          rw [HJ.out, ← show joinB (l.take l.length) = joinB l by rw [List.take_length]]
          exact HO.out
end Go.Proofs.Ytdagpeencafheaa.Oct
