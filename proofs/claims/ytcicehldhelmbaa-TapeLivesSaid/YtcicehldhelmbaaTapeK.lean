import Derived.Test.YtcicehldhelmbaaTapeJ
namespace Go.Proofs.Ytcicehldhelmbaa.Oct
open Go.RowKit Go.Proofs.YtcicehldhelmbaaW.PrintWords Go.Proofs.Ytcicehldhelmbaa.M
set_option linter.unusedVariables false
set_option linter.unusedSimpArgs false
theorem callT_room (t : TS) (o : OpS) : (callT t o).1.room = t.room := by
  unfold callT TS.append TS.cut TS.swap TS.force TS.crash
  repeat' split
  all_goals rfl
theorem playL_room (t : TS) (l : List OpS) : (playL t l).room = t.room := by
  unfold playL
  induction l generalizing t with
  | nil => rfl
  | cons o l ih => rw [List.foldl_cons, ih, callT_room]
theorem playedT_room {room : Int} {l : List OpS} {t : TS} (h : playedT room l = some t) : (t.room : Int) = room := by
  unfold playedT at h
  split at h
  · cases h
  · split at h
    · cases h
    · injection h with h
      rw [← h, playL_room]
      show ((room.toNat : Nat) : Int) = room
      omega
/-- s[m:], and what it reads -/
theorem cut_bytes (A : Option Addr) (n c m : Nat) (hm : m ≤ n) (hc : n ≤ c) : ∃ A' : Option Addr, (∀ W : World, (Instr.slice 30 (.slice A n c) (some (.int .i64 (m : Int))) none none).run Try.prog W = .ok (.slice A' (n - m) (c - m)) W) ∧
    ∀ (w : World) (xs : List Int), (Kd.int .u8).C w A n xs → (convert 30 9 (.slice A' (n - m) (c - m))).run Try.prog w = .ok (.string (strOfNums (xs.drop m))) w := by
  obtain ⟨i0, hi0, hz0, hz1, hz2⟩ := info_parts info_u8
  obtain ⟨A', h1, h2⟩ := print_cut (P := Try.prog) 30 5 .i64 Try.underlying30 hi0 hz1 A n c m hm
  refine ⟨A', h1, fun w xs h => ?_⟩
  have hl : n = xs.length := h.1.symm
  subst hl
  exact string_of_reads Try.underlying30 Try.underlying5 Try.underlying9 (h2 w .u8 xs hc (reads_ints h))
set_option maxHeartbeats 2000000 in
theorem bounds_calls (w : World) (room : Int) (l : List OpS) (b : List Int) (A B : Option Addr) (c d : Nat) (h : opK.C w A l.length l) (ho : ∀ o ∈ l, OpS.ok o) (hr : (Kd.int .u8).C w B b.length b) (hb : Bytes b) (hlb : b.length ≤ 140737488355328) :
    Calls Try.prog 7 #[.int .i64 room, .slice A l.length c, .slice B b.length d] w (Yes w) := by
  have HL := Aside0.mk h
  have HOK := Aside0.mk ho
  have HR := Aside0.mk hr
  have HY := Aside0.mk hb
  clear h ho hr hb
  go_enter Try.func7, Try.ntmps7
  go_wp2_with fail
  refine (played_calls _ room l A c HL.out HOK.out).mono ?_
  rintro e w1 ⟨hb, ⟨_, rfl⟩ | ⟨t, p, hpl, rfl, ht⟩⟩
  · have HB := Aside0.mk hb
    clear hb
    go_wp2_with fail
    refine (alive_calls _).mono ?_
    rintro e w2 ⟨rfl, hb2⟩
    have HB2 := Aside0.mk (HB.out.trans (hb2.mono HB.out.size))
    clear hb2
    go_wp2_with fail
    go_ret
    exact ⟨rfl, HB2.out⟩
  have HB := Aside0.mk hb
  have HP := Aside0.mk ht.is
  have hroom := playedT_room hpl
  have HT := Aside0.mk (ht.mono (G := fun k => w.heap.size ≤ k ∧ k < w1.heap.size) (fun k hk hlt => ⟨hk, hlt⟩))
  have HR1 := Aside0.mk (Kd.C_below HR.out hb)
  clear hb ht hpl
  by_cases hlen : 1000 < b.length
  · go_wp2_with fail
    refine (alive_calls _).mono ?_
    rintro e w2 ⟨rfl, hb2⟩
    have HB2 := Aside0.mk (HB.out.trans (hb2.mono HB.out.size))
    clear hb2
    go_wp2_with fail
    go_ret
    exact ⟨rfl, HB2.out⟩
  go_wp2_with fail
  refine (bytes_calls _ p _ _ HT.out).mono ?_
  rintro e w2 ⟨v, rfl, ho, hb⟩
  have HT2 := Aside0.mk (HT.out.below hb)
  have HB2 := Aside0.mk (HB.out.trans (hb.mono HB.out.size))
  have HO2 := Aside0.mk ho
  have HR2 := Aside0.mk (Kd.C_below HR1.out hb)
  have HS2 := Aside0.mk hb.size
  clear ho hb HT HR1
  go_wp2_with fail
  refine (forced_calls _ p _ _ HT2.out).mono ?_
  rintro e w2' ⟨rfl, rfl⟩
  have hok1 : (t.forced : Int) ≤ t.bs.length := by have := HP.out.2.2.2.2.2.1; omega
  have hok2 : (t.bs.length : Int) ≤ t.room := by have := HP.out.2.2.2.2.1; omega
  have hok3 : (t.room : Int) ≤ 65536 := by have := HP.out.2.2.2.1; omega
  go_wp2_with fail
  refine (len_calls _ p _ _ HT2.out).mono ?_
  rintro e w2' ⟨rfl, rfl⟩
  go_wp2_with fail
  refine (len_calls _ p _ _ HT2.out).mono ?_
  rintro e w2' ⟨rfl, rfl⟩
  go_wp2_with fail
  refine (room_calls _ p _ _ HT2.out).mono ?_
  rintro e w2' ⟨rfl, rfl⟩
  go_wp2_with fail
  refine (room_calls _ p _ _ HT2.out).mono ?_
  rintro e w2' ⟨rfl, rfl⟩
  have hne : ((t.room : Int) != room) = false := by rw [hroom]; exact bne_self_eq_false _
  go_wp2_with fail
  refine (append_calls _ p t _ B d b HT2.out HR2.out HY.out).mono ?_
  rintro e w3 ⟨rfl, ht, hg⟩
  have HT3 := Aside0.mk ht
  have HB3 := Aside0.mk (HB2.out.grown hg HB2.out.size (fun k hk => by injection hk with hk; have := HP.out.2.1; omega))
  have HO3 := Aside0.mk (HO2.out.keep hg HP.out.1)
  have HR3 := Aside0.mk (Kd.C_below HR.out HB3.out)
  obtain ⟨n, hn⟩ : ∃ n, n = t.bs.length := ⟨_, rfl⟩
  obtain ⟨A1, c1, rfl, _⟩ := HO3.out.reads
  have hok4 : (n : Int) ≤ 65536 := by omega
  have HOK2 := Aside0.mk (And.intro hok1 (And.intro hok2 hok3))
  clear ht hg HT2 HB2 HO2 HR2
  rw [← hn] at hok2
  by_cases hf : t.room - t.bs.length < b.length
  · have hap : t.append b = (t, 5) := by unfold TS.append; rw [if_pos hf]
    rw [hap] at HT3
    have hgt : room - n < b.length := by omega
    rw [hap]
    have HW : Aside0 (∀ w5, Below w3.heap.size w3 w5 → (convert 30 9 (.slice A1 n c1)).run Try.prog w5 = .ok (.string (strOfNums t.bs)) w5 ∧ Aside0 (TapeAt w5 p t (fun _ => True) ∧ OB w5 w1.heap.size (.slice A1 n c1) t.bs)) := ⟨fun w5 h5 => by
      rw [hn]
      exact ⟨(HO3.out.below h5).string, ⟨(HT3.out.below h5).mono (fun _ _ _ => trivial), HO3.out.below h5⟩⟩⟩
    obtain ⟨S, hS⟩ : ∃ S, S = strOfNums t.bs := ⟨_, rfl⟩
    rw [← hS] at HW
    have HS := Aside0.mk hS
    rw [← hn]
    have hw : IntKind.i64.wrap (room - ↑n) = room - ↑n := IntWalk.i64_in _ (by omega)
    have hd : decide (IntKind.i64.wrap (room - ↑n) < (b.length : Int)) = true := by rw [hw]; simpa using hgt
    clear hw
    clear hn hf hap hS hok1 HT3 HO3
    go_wp2_with fail
    go_region_held_law (fun _ => True) (first | trivial | exact fun _ _ => trivial)
      (first | (go_at_call 11; refine (alive_calls _).mono ?_; rintro e wa ⟨rfl, hba⟩; obtain ⟨hs1, ha1⟩ := HW.out _ ((below_drew (Below.refl w3.heap.size w3)).trans hba)) | (go_at_call 14; refine (bytes_calls _ p _ _ ha1.out.1).mono ?_; rintro e wb ⟨v4, rfl, ho4, hbb⟩; have hs4 := ho4.string; rw [← HS.out] at hs4; have hs5 := (ha1.out.2.below hbb).string; rw [← HS.out] at hs5))
    all_goals
      go_wp2_with fail
      go_ret
      have hz := HB3.out.trans (((below_drew (Below.refl w3.heap.size w3)).trans hba).mono HB3.out.size)
      exact ⟨rfl, hz.trans (hbb.mono hz.size)⟩
  · have hap : t.append b = ({ t with bs := t.bs ++ b }, 0) := by unfold TS.append; rw [if_neg hf]
    obtain ⟨m, hm⟩ : ∃ m, m = b.length := ⟨_, rfl⟩
    obtain ⟨t2, ht2⟩ : ∃ t2 : TS, t2 = { t with bs := t.bs ++ b } := ⟨_, rfl⟩
    rw [hap, ← ht2] at HT3
    rw [hap]
    have HW : Aside0 (∀ w5, Below w3.heap.size w3 w5 → (convert 30 9 (.slice B m d)).run Try.prog w5 = .ok (.string (strOfNums b)) w5 ∧ Aside0 (TapeAt w5 p t2 (fun _ => True) ∧ (Kd.int .u8).C w5 B b.length b)) := ⟨fun w5 h5 => by
      rw [hm]
      have := Kd.C_below HR3.out h5
      exact ⟨C_str this, ⟨(HT3.out.below h5).mono (fun _ _ _ => trivial), this⟩⟩⟩
    have ht2l : t2.bs.length = n + m := by rw [ht2, hn, hm]; exact List.length_append
    have ht2d : t2.bs.drop n = b := by rw [ht2, hn]; exact List.drop_left
    have HD := Aside0.mk (And.intro ht2l ht2d)
    have hlm : (m : Int) ≤ 1000 := by omega
    have HM := Aside0.mk hm
    have hln : Aside0 ((t2.bs.length : Int) = ↑n + ↑m) := ⟨by rw [ht2l]; simp⟩
    have hw : IntKind.i64.wrap (↑n + ↑m) = ↑n + ↑m := IntWalk.i64_in _ (by omega)
    obtain ⟨S, hS⟩ : ∃ S, S = strOfNums b := ⟨_, rfl⟩
    rw [← hS] at HW
    have HS := Aside0.mk hS
    rw [← hn, ← hm]
    clear hn hm hf hap hS hok1 HT3 HO3 ht2 ht2l ht2d hlb hlen
    go_wp2_with fail
    go_region_held_law (fun _ => True) (first | trivial | exact fun _ _ => trivial)
      (first | (go_at_call 11; refine (alive_calls _).mono ?_; rintro e wa ⟨rfl, hba⟩; obtain ⟨hs1, ha1⟩ := HW.out _ ((below_drew (Below.refl w3.heap.size w3)).trans hba)) | (go_at_call 16; refine (len_calls _ p _ _ ha1.out.1).mono ?_; rw [hln.out]; rintro e wb ⟨rfl, rfl⟩) | (go_at_call 14; refine (bytes_calls _ p _ _ ha1.out.1).mono ?_; rintro e wb ⟨v4, rfl, ho4, hbb⟩; obtain ⟨A4, c4, rfl, hr4⟩ := ho4.reads; have hc4 := ho4.cap; rw [HD.out.1] at hr4 hc4; rw [HD.out.1]; obtain ⟨A5, hcut, hst⟩ := cut_bytes A4 (n + m) c4 n (by omega) hc4; have hs5 := hst wb _ hr4; rw [HD.out.2, ← HS.out] at hs5; have hs6 := C_str (c := d) (Kd.C_below ha1.out.2 hbb); rw [← HS.out, ← HM.out] at hs6; clear hst; rw [show n + m - n = m by omega] at *))
    all_goals
      go_wp2_with fail
      go_ret
      have hz := HB3.out.trans (((below_drew (Below.refl w3.heap.size w3)).trans hba).mono HB3.out.size)
      exact ⟨rfl, hz.trans (hbb.mono hz.size)⟩
end Go.Proofs.Ytcicehldhelmbaa.Oct
