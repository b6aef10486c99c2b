import Derived.Test.YtcicehldhelmbaaTapeF
namespace Go.Proofs.Ytcicehldhelmbaa.Oct
open Go.RowKit Go.Proofs.YtcicehldhelmbaaW.PrintWords Go.Proofs.Ytcicehldhelmbaa.M
set_option linter.unusedVariables false
set_option linter.unusedSimpArgs false
/-- a tape behind calls -/
def playL (t : TS) (l : List OpS) : TS := l.foldl (fun t o => (callT t o).1) t
theorem playL_succ (t : TS) (l : List OpS) (z : OpS) {i : Nat} (h : i < l.length) : playL t (l.take (i + 1)) = (callT (playL t (l.take i)) (l.getD i z)).1 := by
  unfold playL
  rw [List.take_succ_eq_append_getElem h, List.foldl_append]
  simp [List.getD_eq_getElem?_getD, List.getElem?_eq_getElem h]
/-- the tape that is played, if there is one -/
def playedT (room : Int) (l : List OpS) : Option TS :=
  if room < 1 ∨ 65536 < room then none else if ∃ o ∈ l.take 30, 500 < o.2.2.length then none else some (playL ⟨room.toNat, [], 0⟩ (l.take 30))
def RetPlay (w : World) (room : Int) (l : List OpS) (e : Ending) (w' : World) : Prop :=
  Below w.heap.size w w' ∧ ((playedT room l = none ∧ e = .returned (.pointer none)) ∨ ∃ t p, playedT room l = some t ∧ e = .returned (.pointer (some ⟨p, 0, none⟩)) ∧ TapeAt w' p t (fun k => w.heap.size ≤ k))
theorem played_bad (w : World) (room : Int) (l : List OpS) (A : Option Addr) (c : Nat) (h : room < 1 ∨ 65536 < room) : Calls Try.prog 19 #[.int .i64 room, .slice A l.length c] w (RetPlay w room l) := by
  have HN : Aside0 (playedT room l = none) := ⟨by unfold playedT; rw [if_pos h]⟩
  have HB := Aside0.mk h
  clear h
  go_enter Try.func19, Try.ntmps19
  go_wp2_with fail
  refine (new_bad _ room HB.out).mono ?_
  rintro e w1 ⟨rfl, rfl⟩
  go_wp2_with fail
  go_ret
  exact ⟨Below.refl _ _, .inl ⟨HN.out, rfl⟩⟩
theorem mem_take {l : List OpS} {i j : Nat} (z : OpS) (h : i < l.length) (hj : i < j) : l.getD i z ∈ l.take j := by
  rw [List.getD_eq_getElem?_getD, List.getElem?_eq_getElem h]
  exact List.mem_take_iff_getElem.2 ⟨i, (by omega), rfl⟩
theorem mem_take_get {l : List OpS} {o : OpS} {j : Nat} (z : OpS) (h : o ∈ l.take j) : ∃ i, i < l.length ∧ i < j ∧ o = l.getD i z := by
  obtain ⟨i, hi, rfl⟩ := List.mem_take_iff_getElem.1 h
  exact ⟨i, (by omega), (by omega), by rw [List.getD_eq_getElem?_getD, List.getElem?_eq_getElem (by omega)]; rfl⟩
theorem playedT_bad {room : Int} {l : List OpS} {i : Nat} (z : OpS) (h : i < l.length) (hi : i < 30) (hb : 500 < (l.getD i z).2.2.length) : playedT room l = none := by
  unfold playedT
  by_cases h1 : room < 1 ∨ 65536 < room
  · rw [if_pos h1]
  · rw [if_neg h1, if_pos ⟨_, mem_take z h hi, hb⟩]
theorem playedT_good {room : Nat} {l : List OpS} {i : Nat} (z : OpS) (h1 : 1 ≤ room) (h2 : room ≤ 65536) (hi : (i = l.length ∧ i ≤ 30) ∨ i = 30) (hb : ∀ j, j < i → j < l.length → (l.getD j z).2.2.length ≤ 500) : playedT room l = some (playL ⟨room, [], 0⟩ (l.take i)) := by
  unfold playedT
  rw [if_neg (by omega), if_neg]
  · rw [Int.toNat_natCast]
    rcases hi with ⟨rfl, h30⟩ | rfl
    · rw [List.take_of_length_le h30, List.take_of_length_le (Nat.le_refl _)]
    · rfl
  · rintro ⟨o, ho, hlt⟩
    obtain ⟨j, hj1, hj2, rfl⟩ := mem_take_get z ho
    have := hb j (by omega) hj1
    omega
set_option maxHeartbeats 1000000 in
theorem played_good (w : World) (room : Nat) (l : List OpS) (A : Option Addr) (c : Nat) (h : opK.C w A l.length l) (ho : ∀ o ∈ l, OpS.ok o) (h1 : 1 ≤ room) (h2 : room ≤ 65536) : Calls Try.prog 19 #[.int .i64 room, .slice A l.length c] w (RetPlay w room l) := by
  have HL := Aside0.mk h
  have HOK := Aside0.mk ho
  have HR := Aside0.mk (And.intro h1 h2)
  clear h ho h1 h2
  go_enter Try.func19, Try.ntmps19
  go_wp2_with fail
  refine (new_good _ room HR.out.1 HR.out.2).mono ?_
  rintro e w1 ⟨rfl, ht, hb⟩
  have HT := Aside0.mk ht
  have HB := Aside0.mk hb
  clear ht hb
  go_wp2_with fail
  go_loopw [7] (fun v7 wr => ∃ (i : Nat), i ≤ l.length ∧ i ≤ 30 ∧ v7 = .int .i64 i ∧ Aside0 (Below w.heap.size w wr) ∧ Aside0 (TapeAt wr w.heap.size (playL ⟨room, [], 0⟩ (l.take i)) (fun k => w.heap.size ≤ k)) ∧ Aside0 (∀ j, j < i → j < l.length → (l.getD j (0, 0, [])).2.2.length ≤ 500)) (fun v _ => l.length - (intOf v).toNat)
  case atStart => exact ⟨0, by omega, by omega, rfl, HB, ⟨HT.out⟩, ⟨fun j hj => by omega⟩⟩
  case round =>
    obtain ⟨i, hi, hi2, rfl, HBw, HTw, HS⟩ := hrel
    by_cases hlt : i < l.length
    · by_cases h30 : i < 30
      · obtain ⟨ad, B, c1, rfl, c0, c1', c2, hcap, hrd⟩ := op_at (Kd.C_below HL.out HBw.out) hlt (0, 0, [])
        have HOI : Aside0 (OpS.ok (l.getD i (0, 0, []))) := ⟨HOK.out _ (by rw [List.getD_eq_getElem?_getD, List.getElem?_eq_getElem hlt]; exact List.getElem_mem hlt)⟩
        have HSL : Aside0 (playL ⟨room, [], 0⟩ (l.take (i + 1)) = (callT (playL ⟨room, [], 0⟩ (l.take i)) (l.getD i (0, 0, []))).1) := ⟨playL_succ _ _ _ hlt⟩
        have HPB : Aside0 (500 < (l.getD i (0, 0, [])).2.2.length → playedT room l = none) := ⟨fun h => playedT_bad (0, 0, []) hlt h30 h⟩
        have HRD := Aside0.mk hrd
        clear hrd
        obtain ⟨o, ho⟩ : ∃ o, o = l.getD i (0, 0, []) := ⟨_, rfl⟩
        have HO := Aside0.mk ho
        rw [← ho] at c0 c1' c2 hcap HOI HSL HPB HRD
        clear ho
        obtain ⟨kd, n, b⟩ := o
        dsimp only at c0 c1' c2 hcap HPB HRD
        obtain ⟨m, hm⟩ : ∃ m, m = b.length := ⟨_, rfl⟩
        by_cases h5 : 500 < b.length
        · go_wp2_with fail
          go_ret
          exact ⟨HBw.out, .inl ⟨HPB.out h5, rfl⟩⟩
        · go_wp2_with fail
          refine (call_calls _ w.heap.size _ _ kd n b B c1 HTw.out HRD.out HOI.out (by omega)).mono ?_
          rintro e w2 ⟨rfl, ht, hg⟩
          have hb2 := HBw.out.grown hg HBw.out.size (fun k hk => by injection hk with hk; omega)
          have HT2 : Aside0 (TapeAt w2 w.heap.size (playL ⟨room, [], 0⟩ (l.take (i + 1))) (fun k => w.heap.size ≤ k)) := ⟨by rw [HSL.out]; exact ht.mono (fun k hk _ => hk.elim id (fun hk => Nat.le_trans HBw.out.size hk))⟩
          have HS2 : Aside0 (∀ j, j < i + 1 → j < l.length → (l.getD j (0, 0, [])).2.2.length ≤ 500) := ⟨fun j hj hjl => by
            by_cases hji : j = i
            · rw [hji, ← HO.out]; dsimp only; omega
            · exact HS.out j (by omega) hjl⟩
          have HB2 := Aside0.mk hb2
          clear ht hg hb2
          go_wp2_with fail
          refine ⟨⟨i + 1, by omega, by omega, by go_num, HB2, HT2, HS2⟩, by simp [intOf]; omega⟩
      · obtain rfl : i = 30 := by omega
        go_wp2_with fail
        go_ret
        exact ⟨HBw.out, .inr ⟨_, _, playedT_good (0, 0, []) HR.out.1 HR.out.2 (.inr rfl) HS.out, rfl, HTw.out⟩⟩
    · obtain rfl : i = l.length := by omega
      go_wp2_with fail
      go_ret
      exact ⟨HBw.out, .inr ⟨_, _, playedT_good (0, 0, []) HR.out.1 HR.out.2 (.inl ⟨rfl, hi2⟩) HS.out, rfl, HTw.out⟩⟩
theorem played_calls (w : World) (room : Int) (l : List OpS) (A : Option Addr) (c : Nat) (h : opK.C w A l.length l) (ho : ∀ o ∈ l, OpS.ok o) : Calls Try.prog 19 #[.int .i64 room, .slice A l.length c] w (RetPlay w room l) := by
  by_cases hr : room < 1 ∨ 65536 < room
  · exact played_bad w room l A c hr
  · obtain ⟨m, rfl⟩ := Int.eq_ofNat_of_zero_le (show 0 ≤ room by omega)
    exact played_good w m l A c h ho (by omega) (by omega)
end Go.Proofs.Ytcicehldhelmbaa.Oct
