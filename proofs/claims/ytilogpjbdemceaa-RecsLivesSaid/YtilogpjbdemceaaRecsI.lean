import Derived.Test.YtilogpjbdemceaaRecsH
namespace Go.Proofs.Ytilogpjbdemceaa.Oct
open Go.RowKit Go.Proofs.YtilogpjbdemceaaW.PrintWords Go.Proofs.Ytilogpjbdemceaa.M
set_option linter.unusedVariables false
set_option linter.unusedSimpArgs false
theorem i64_and15 (n : Int) : bits .and .i64 n 15 = n % 16 := by
  have h127 : (BitVec.ofInt 64 15).toNat = 2 ^ 4 - 1 := by decide
  have key : (BitVec.ofInt 64 n &&& BitVec.ofInt 64 15).toNat = (n % ((2 ^ 64 : Nat) : Int)).toNat % 2 ^ 4 := by
    rw [BitVec.toNat_and, BitVec.toNat_ofInt, h127, Nat.and_two_pow_sub_one_eq_mod]
  show IntKind.i64.wrap ((BitVec.ofInt 64 n &&& BitVec.ofInt 64 15).toNat : Nat) = n % 16
  rw [key, IntKind.wrap_i64]
  omega
theorem i64_and31 (n : Int) : bits .and .i64 n 31 = n % 32 := by
  have h127 : (BitVec.ofInt 64 31).toNat = 2 ^ 5 - 1 := by decide
  have key : (BitVec.ofInt 64 n &&& BitVec.ofInt 64 31).toNat = (n % ((2 ^ 64 : Nat) : Int)).toNat % 2 ^ 5 := by
    rw [BitVec.toNat_and, BitVec.toNat_ofInt, h127, Nat.and_two_pow_sub_one_eq_mod]
  show IntKind.i64.wrap ((BitVec.ofInt 64 n &&& BitVec.ofInt 64 31).toNat : Nat) = n % 32
  rw [key, IntKind.wrap_i64]
  omega
/-- a number of a row that is read -/
theorem C_num {w : World} {A : Option Addr} {n : Nat} {xs : List Int} (h : Kd.C (Kd.int .i64) w A n xs) {k : Nat} (hk : k < n) : ∃ ad, A = some ad ∧ w.cell? (ad.add k) = some (.int .i64 (xs.getD k 0)) := by
  obtain ⟨ad, e, hc⟩ := Kd.at_int h (k : Int) (by omega) (by omega)
  exact ⟨ad, e, hc⟩
theorem StreamAt.kept {W W' : World} {p : Nat} {s : SS} {F G : Nat → Prop} (h : StreamAt W p s F) (hk : Kept W G W') (hd : ∀ k, F k → ¬ G k) : StreamAt W' p s F := h.step (fun k hF hlt => hk.block k hlt (hd k hF))
/-- the rest of a row that is read -/
theorem C_drop {W : World} {ad : Addr} {xs : List Int} (h : Kd.C (Kd.int .u8) W (some ad) xs.length xs) {k : Nat} (hk : k ≤ xs.length) : Kd.C (Kd.int .u8) W (some (ad.add k)) (xs.length - k) (xs.drop k) := by
  refine Kd.C_of_reads (d := (0 : Int)) ⟨by simp, by have := h.2.1; omega, fun hn => ⟨_, rfl, fun j hj => ?_⟩⟩
  obtain ⟨ad', e, hc⟩ := C_byte h (k := k + j) (by omega)
  injection e with e
  subst e
  rw [Rd.addr_add_add]
  rw [hc]
  simp [List.getD_eq_getElem?_getD, List.getElem?_drop]
/-- two streams that share nothing: the first one's calls -/
theorem two_get {w W : World} {p q : Nat} {s t : SS} {F G : Nat → Prop} {n : Int} (hp : StreamAt W p s F) (hq : StreamAt W q t G) (hd : ∀ k, F k → ¬ G k) (hF : ∀ k, F k → w.heap.size ≤ k) (hB : Below w.heap.size w W) (hn : n ≤ 9223372036854775807) :
    Calls Try.prog 24 #[.pointer (some ⟨p, 0, none⟩), .int .i64 n] W (fun e W' => ∃ A c, e = .returned (.tuple #[.slice A (s.get n).out.length c, .bool (s.get n).whole, .int .i64 (s.get n).err]) ∧ StreamAt W' p (s.get n).st F ∧ StreamAt W' q t G ∧ OB W' W.heap.size (.slice A (s.get n).out.length c) (s.get n).out ∧ Kept W F W' ∧ Below w.heap.size w W') := by
  refine (sget_calls W p s _ n hp hn).mono ?_
  rintro e W' ⟨v, rfl, hs, ho, hk⟩
  obtain ⟨A, c, rfl, _⟩ := ho.reads
  exact ⟨A, c, rfl, hs, hq.kept hk (fun k h1 h2 => hd k h2 h1), ho, hk, below_kept hB hk hB.size hF⟩
theorem two_end {w W : World} {p q : Nat} {s t : SS} {F G : Nat → Prop} (hp : StreamAt W p s F) (hq : StreamAt W q t G) (hd : ∀ k, F k → ¬ G k) (hF : ∀ k, F k → w.heap.size ≤ k) (hB : Below w.heap.size w W) :
    Calls Try.prog 36 #[.pointer (some ⟨p, 0, none⟩)] W (fun e W' => e = .returned (.int .i64 s.fin.2) ∧ StreamAt W' p s.fin.1 F ∧ StreamAt W' q t G ∧ W.heap.size ≤ W'.heap.size ∧ Below w.heap.size w W') := by
  refine (send_calls W p s _ hp).mono ?_
  rintro e W' ⟨⟨rfl, hs, hk⟩, hsz⟩
  exact ⟨rfl, hs.mono (fun k h hlt => h.elim id (fun h => by have h : W.heap.size ≤ k := h; omega)), hq.kept hk (fun k h1 h2 => hd k h2 h1), hk.size, below_kept hB hk hB.size hF⟩
theorem two_put {w W : World} {p q : Nat} {s t : SS} {F G : Nat → Prop} {A : Option Addr} {c : Nat} {ys : List Int} (hp : StreamAt W p s F) (hq : StreamAt W q t G) (hd : ∀ k, F k → ¬ G k) (hF : ∀ k, F k → w.heap.size ≤ k) (hB : Below w.heap.size w W) (hy : Kd.C (Kd.int .u8) W A ys.length ys) (hb : Bytes ys) :
    Calls Try.prog 23 #[.pointer (some ⟨p, 0, none⟩), .slice A ys.length c] W (fun e W' => e = .returned (.int .i64 (s.put ys).2) ∧ StreamAt W' p (s.put ys).1 (New W F) ∧ StreamAt W' q t G ∧ W.heap.size ≤ W'.heap.size ∧ Below w.heap.size w W') := by
  refine (sput_calls W p s _ A c ys hp hy hb).mono ?_
  rintro e W' ⟨rfl, hs, hk⟩
  exact ⟨rfl, hs, hq.kept hk (fun k h1 h2 => hd k h2 h1), hk.size, below_kept hB hk hB.size hF⟩
theorem put_room {xs us : List Int} (h : xs.length + us.length ≤ 65536) : SS.put ⟨0, xs, false⟩ us = (⟨0, xs ++ us, false⟩, 0) := by
  unfold SS.put
  rw [if_neg (by simp), if_neg (by simp only; omega)]
theorem C_left {W : World} {A : Option Addr} {us vs : List Int} (h : Kd.C (Kd.int .u8) W A (us ++ vs).length (us ++ vs)) : Kd.C (Kd.int .u8) W A us.length us := by
  have := C_take h us.length (by simp)
  rwa [List.take_left] at this
theorem C_right {W : World} {ad : Addr} {us vs : List Int} (h : Kd.C (Kd.int .u8) W (some ad) (us ++ vs).length (us ++ vs)) : Kd.C (Kd.int .u8) W (some (ad.add us.length)) vs.length vs := by
  have := C_drop h (k := us.length) (by simp)
  rwa [List.drop_left, List.length_append, Nat.add_sub_cancel_left] at this
abbrev F1 (base q H3 : Nat) : Nat → Prop := fun k => k ≠ q ∧ base ≤ k ∧ k < H3
abbrev F3 (q H3 H4 : Nat) : Nat → Prop := fun k => k = q ∨ (H3 ≤ k ∧ k < H4)
abbrev F2 (q H3 : Nat) : Nat → Prop := fun k => k = q ∨ H3 ≤ k
theorem rpieces_big (w : World) (b cuts takes : List Int) (A B D : Option Addr) (ca cb cd : Nat) (hbl : b.length ≤ 9223372036854775807) (htl : takes.length ≤ 9223372036854775807) (h : 600 < (b.length : Int) ∨ ((b.length : Int) ≤ 600 ∧ 60 < (takes.length : Int))) :
    Calls Try.prog 11 #[.slice A b.length ca, .slice B cuts.length cb, .slice D takes.length cd] w (Yes w) := by
  rcases h with h | ⟨h, h2⟩
  all_goals
    go_enter Try.func11, Try.ntmps11
    go_wp2_with fail
    refine (salive_calls _).mono ?_
    rintro e w7 ⟨rfl, hb7⟩
    have HB7 := Aside0.mk hb7
    clear hb7
    go_wp2_with fail
    go_ret
    exact ⟨rfl, HB7.out⟩
set_option maxRecDepth 20000 in
set_option maxHeartbeats 4000000 in
theorem rpieces_small (w : World) (b cuts takes : List Int) (A B D : Option Addr) (ca cb cd : Nat) (ha : Kd.C (Kd.int .u8) w A b.length b) (hb : Bytes b) (hc : Kd.C (Kd.int .i64) w B cuts.length cuts) (ht : Kd.C (Kd.int .i64) w D takes.length takes) (hta : ∀ x ∈ takes, -9223372036854775808 ≤ x ∧ x ≤ 9223372036854775807)
    (hA : A = none → ca = 0) (hca : b.length ≤ ca) (h1 : ¬ 600 < b.length) (h2 : ¬ 60 < takes.length) :
    Calls Try.prog 11 #[.slice A b.length ca, .slice B cuts.length cb, .slice D takes.length cd] w (Yes w) := by
  have HA := Aside0.mk ha
  have HBB := Aside0.mk hb
  have HC := Aside0.mk hc
  have HT := Aside0.mk ht
  have HTA := Aside0.mk hta
  have hcl : cuts.length ≤ 9223372036854775807 := hc.2.1
  clear ha hb hc ht hta
  have h1' : (b.length : Int) ≤ 600 := by omega
  have h2' : (takes.length : Int) ≤ 60 := by omega
  have H1 := Aside0.mk h1
  clear h1 h2
  go_enter Try.func11, Try.ntmps11
  go_wp2_with fail
  refine (snew_at _).mono ?_
  rintro e w1 ⟨rfl, hs1, hb1⟩
  have HB1 := Aside0.mk hb1
  go_wp2_with fail
  refine (snew_at _).mono ?_
  rintro e w2 ⟨rfl, hs2, hb2⟩
  have HB2 := Aside0.mk (HB1.out.trans (hb2.mono HB1.out.size))
  have hs1' := hs1.below hb2
  obtain ⟨p, hp⟩ : ∃ p, p = w.heap.size := ⟨_, rfl⟩
  obtain ⟨q, hq⟩ : ∃ q, q = w1.heap.size := ⟨_, rfl⟩
  have hpq : p < q := by have := hs1.is.1; omega
  rw [← hp] at hs1'
  rw [← hq] at hs2
  rw [← hp, ← hq]
  have HS1 := Aside0.mk hs1'
  have HS2 := Aside0.mk hs2
  have HPW : Aside0 (w.heap.size ≤ p ∧ w.heap.size ≤ q) := ⟨by omega⟩
  clear hs1 hs2 hb1 hb2 hp hq hs1'
  go_wp2_with fail
  refine (sput_calls _ p _ _ A ca b HS1.out (Kd.C_below HA.out HB2.out) HBB.out).mono ?_
  have hpv : SS.put ⟨0, [], false⟩ b = (⟨0, b, false⟩, 0) := by
    unfold SS.put
    rw [if_neg (by simp), if_neg (by have := H1.out; simp; omega), List.nil_append]
  rw [hpv]
  rintro e w3 ⟨rfl, hs, hk⟩
  obtain ⟨H3, hH3⟩ : ∃ H3, H3 = w3.heap.size := ⟨_, rfl⟩
  have HS1 : Aside0 (StreamAt w3 p ⟨0, b, false⟩ (F1 w.heap.size q H3)) := ⟨hs.mono (fun k h hlt => by
    have h1 := HS2.out.is.1
    have h2 := HPW.out
    rcases h with h | h
    · exact ⟨by omega, by omega, by omega⟩
    · have h : w2.heap.size ≤ k := h
      have := HB2.out.size
      exact ⟨by omega, by omega, by omega⟩)⟩
  have HS2 : Aside0 (StreamAt w3 q ⟨0, [], false⟩ (F2 q H3)) := ⟨(HS2.out.kept hk (fun k h1 h2 => by omega)).mono (fun k h _ => .inl h)⟩
  have HB3 : Aside0 (Below w.heap.size w w3) := ⟨below_kept HB2.out hk HB2.out.size (fun k h => by have := HPW.out.1; omega)⟩
  have HH3 : Aside0 (H3 ≤ w3.heap.size ∧ w.heap.size ≤ H3) := ⟨by have := HB3.out.size; omega⟩
  clear hs hk hpv hH3 HB2 HB1
  go_wp2_with fail
  go_loopw [9, 10] (fun v9 v10 wr => ∃ (i : Nat) (A' : Option Addr) (c' : Nat) (xs zs : List Int), i ≤ cuts.length ∧ i ≤ 100 ∧ v9 = .slice A' zs.length c' ∧ v10 = .int .i64 i ∧ zs.length ≤ c' ∧ zs.length ≤ 600 ∧ Aside0 (A' = none → c' = 0) ∧ Aside0 (b = xs ++ zs) ∧ Aside0 (Kd.C (Kd.int .u8) w A' zs.length zs) ∧ Aside0 (Below w.heap.size w wr) ∧ Aside0 (H3 ≤ wr.heap.size) ∧ Aside0 (StreamAt wr p ⟨0, b, false⟩ (F1 w.heap.size q H3)) ∧ Aside0 (StreamAt wr q ⟨0, xs, false⟩ (F2 q H3))) (fun _ v _ => cuts.length - (intOf v).toNat)
  case atStart => exact ⟨0, A, ca, [], b, by omega, by omega, rfl, rfl, hca, by omega, ⟨hA⟩, ⟨rfl⟩, HA, HB3, ⟨HH3.out.1⟩, HS1, HS2⟩
  case round =>
    obtain ⟨i, A', c', xs, zs, hi, hi100, rfl, rfl, hzc, hz6, HAN, HBX, HZ, HB, HH, HP, HQ⟩ := hrel
    have hcase : (i < cuts.length ∧ i < 100) ∨ i = cuts.length ∨ (i < cuts.length ∧ i = 100) := by omega
    rcases hcase with ⟨hlt, h100⟩ | hend
    · obtain ⟨ad, rfl, hcell⟩ := C_num (Kd.C_below HC.out HB.out) hlt
      obtain ⟨x, hx⟩ : ∃ x, x = cuts.getD i 0 := ⟨_, rfl⟩
      rw [← hx] at hcell
      clear hx
      have hand := i64_and15 x
      obtain ⟨k, hk⟩ : ∃ k : Nat, (k : Int) = x % 16 := ⟨(x % 16).toNat, by omega⟩
      rw [← hk] at hand
      clear hk
      have hsplit : ∃ us vs : List Int, zs = us ++ vs ∧ ((us.length = k ∧ k ≤ zs.length) ∨ (us.length = zs.length ∧ zs.length < k)) := by
        by_cases hkz : k ≤ zs.length
        · exact ⟨zs.take k, zs.drop k, (List.take_append_drop _ _).symm, .inl ⟨take_form hkz, hkz⟩⟩
        · exact ⟨zs, [], (List.append_nil _).symm, .inr ⟨rfl, by omega⟩⟩
      obtain ⟨us, vs, hzs, hk⟩ := hsplit
      have HUS : Aside0 (Kd.C (Kd.int .u8) w A' us.length us) := ⟨by have := HZ.out; rw [hzs] at this; exact C_left this⟩
      have HVS : Aside0 (∀ ad', A' = some ad' → Kd.C (Kd.int .u8) w (some (ad'.add us.length)) vs.length vs) := ⟨fun ad' e => by have := HZ.out; rw [hzs, e] at this; exact C_right this⟩
      have HBX2 : Aside0 (b = (xs ++ us) ++ vs) := ⟨by rw [List.append_assoc, ← hzs]; exact HBX.out⟩
      have HPR : Aside0 (xs.length + us.length ≤ 65536 ∧ Bytes us) := ⟨by
        have h1 := congrArg List.length HBX2.out
        simp only [List.length_append] at h1
        refine ⟨by omega, ?_⟩
        have h2 := HBB.out
        rw [HBX2.out] at h2
        exact fun x hx => h2 x (List.mem_append_left _ (List.mem_append_right _ hx))⟩
      have hNl : zs.length = us.length + vs.length := by rw [hzs, List.length_append]
      obtain ⟨N, hN⟩ : ∃ N, N = zs.length := ⟨_, rfl⟩
      rw [← hN] at hNl hzc hz6 hk ⊢
      have HNL := Aside0.mk hNl
      have hun : us.length ≤ N := by omega
      have hun' : (us.length : Int) ≤ (N : Int) := by omega
      have huc : (us.length : Int) ≤ (c' : Int) := by omega
      have hnc : (N : Int) ≤ (c' : Int) := by omega
      clear hN hzs hNl HZ HBX
      have HCC : Aside0 (us.length = c' ∨ us.length ≠ c') := ⟨by omega⟩
      rcases hk with ⟨rfl, hk⟩ | ⟨hk0, hk⟩
      · have hkz : ¬ (N : Int) < (us.length : Int) := by omega
        cases A' with
        | none =>
          obtain rfl : c' = 0 := HAN.out rfl
          obtain rfl : N = 0 := by omega
          have hul : us = [] := List.eq_nil_of_length_eq_zero (by omega)
          have hvl : vs = [] := List.eq_nil_of_length_eq_zero (by have := HNL.out; omega)
          subst hul hvl
          have HB2 := Aside0.mk HBX2.out
          clear HUS HVS HNL HCC HAN
          simp only [List.length_nil] at hkz hzc hz6 ⊢
          clear hnc huc hun hun' hk hzc hz6
          go_wp2_with fail
          refine (two_put (ys := []) HQ.out HP.out (fun k h1 h2 => by have := h2.1; have := h2.2.2; rcases h1 with h | h <;> omega) (fun k h => by have := HH3.out.2; have := HPW.out.2; rcases h with h | h <;> omega) HB.out (Kd.C_nil _ _) HPR.out.2).mono ?_
          rw [put_room HPR.out.1]
          rintro e w4 ⟨rfl, hq4, hp4, hs4, hb4⟩
          have HQ4 : Aside0 (StreamAt w4 q ⟨0, xs ++ [], false⟩ (F2 q H3)) := ⟨hq4.mono (fun k h _ => by have := HH.out; rcases h with h | h; exact h; exact .inr (Nat.le_trans this h))⟩
          have HP4 := Aside0.mk hp4
          have HB4 := Aside0.mk hb4
          have HH4 : Aside0 (H3 ≤ w4.heap.size) := ⟨Nat.le_trans HH.out hs4⟩
          clear hq4 hp4 hb4 hs4
          go_wp2_with fail
          exact ⟨⟨i + 1, none, 0, xs ++ [], [], by omega, by omega, rfl, by go_num, by simp, by simp, ⟨fun _ => rfl⟩, HB2, ⟨Kd.C_nil _ _⟩, HB4, HH4, HP4, HQ4⟩, by simp [intOf]; omega⟩
        | some ad' =>
          go_wp2_with fail
          refine (two_put HQ.out HP.out (fun k h1 h2 => by have := h2.1; have := h2.2.2; rcases h1 with h | h <;> omega) (fun k h => by have := HH3.out.2; have := HPW.out.2; rcases h with h | h <;> omega) HB.out (Kd.C_below HUS.out HB.out) HPR.out.2).mono ?_
          rw [put_room HPR.out.1]
          rintro e w4 ⟨rfl, hq4, hp4, hs4, hb4⟩
          have HQ4 : Aside0 (StreamAt w4 q ⟨0, xs ++ us, false⟩ (F2 q H3)) := ⟨hq4.mono (fun k h _ => by have := HH.out; rcases h with h | h; exact h; exact .inr (Nat.le_trans this h))⟩
          have HP4 := Aside0.mk hp4
          have HB4 := Aside0.mk hb4
          have HH4 : Aside0 (H3 ≤ w4.heap.size) := ⟨Nat.le_trans HH.out hs4⟩
          clear hq4 hp4 hb4 hs4
          rcases HCC.out with hc | hc
          · subst hc
            have hvl : vs = [] := List.eq_nil_of_length_eq_zero (by have := HNL.out; omega)
            have HVL := Aside0.mk hvl
            clear hvl
            go_wp2_with fail
            exact ⟨⟨i + 1, some ad', 0, xs ++ us, [], by omega, by omega, rfl, by go_num, by simp, by simp, ⟨fun h => by cases h⟩, ⟨by have := HBX2.out; rw [HVL.out] at this; exact this⟩, ⟨C_take HUS.out 0 (Nat.zero_le _)⟩, HB4, HH4, HP4, HQ4⟩, by simp [intOf]; omega⟩
          · go_wp2_with fail
            have hvl : N - us.length = vs.length := by have := HNL.out; omega
            refine ⟨⟨i + 1, some (ad'.add us.length), c' - us.length, xs ++ us, vs, by omega, by omega, ?_, by go_num, by omega, by omega, ⟨fun h => by cases h⟩, HBX2, ⟨HVS.out ad' rfl⟩, HB4, HH4, HP4, HQ4⟩, by simp [intOf]; omega⟩
            first | rw [hvl] | (simp; omega)
      · obtain rfl : N = us.length := hk0.symm
        have hkz : (us.length : Int) < (k : Int) := by omega
        clear hun hun' hk
        cases A' with
        | none =>
          obtain rfl : c' = 0 := HAN.out rfl
          have hul : us = [] := List.eq_nil_of_length_eq_zero (by omega)
          have hvl : vs = [] := List.eq_nil_of_length_eq_zero (by have := HNL.out; omega)
          subst hul hvl
          have HB2 := Aside0.mk HBX2.out
          clear HUS HVS HNL HCC HAN
          simp only [List.length_nil] at hkz hzc hz6 ⊢
          clear hnc huc  hzc hz6
          go_wp2_with fail
          refine (two_put (ys := []) HQ.out HP.out (fun k h1 h2 => by have := h2.1; have := h2.2.2; rcases h1 with h | h <;> omega) (fun k h => by have := HH3.out.2; have := HPW.out.2; rcases h with h | h <;> omega) HB.out (Kd.C_nil _ _) HPR.out.2).mono ?_
          rw [put_room HPR.out.1]
          rintro e w4 ⟨rfl, hq4, hp4, hs4, hb4⟩
          have HQ4 : Aside0 (StreamAt w4 q ⟨0, xs ++ [], false⟩ (F2 q H3)) := ⟨hq4.mono (fun k h _ => by have := HH.out; rcases h with h | h; exact h; exact .inr (Nat.le_trans this h))⟩
          have HP4 := Aside0.mk hp4
          have HB4 := Aside0.mk hb4
          have HH4 : Aside0 (H3 ≤ w4.heap.size) := ⟨Nat.le_trans HH.out hs4⟩
          clear hq4 hp4 hb4 hs4
          go_wp2_with fail
          exact ⟨⟨i + 1, none, 0, xs ++ [], [], by omega, by omega, rfl, by go_num, by simp, by simp, ⟨fun _ => rfl⟩, HB2, ⟨Kd.C_nil _ _⟩, HB4, HH4, HP4, HQ4⟩, by simp [intOf]; omega⟩
        | some ad' =>
          go_wp2_with fail
          refine (two_put HQ.out HP.out (fun k h1 h2 => by have := h2.1; have := h2.2.2; rcases h1 with h | h <;> omega) (fun k h => by have := HH3.out.2; have := HPW.out.2; rcases h with h | h <;> omega) HB.out (Kd.C_below HUS.out HB.out) HPR.out.2).mono ?_
          rw [put_room HPR.out.1]
          rintro e w4 ⟨rfl, hq4, hp4, hs4, hb4⟩
          have HQ4 : Aside0 (StreamAt w4 q ⟨0, xs ++ us, false⟩ (F2 q H3)) := ⟨hq4.mono (fun k h _ => by have := HH.out; rcases h with h | h; exact h; exact .inr (Nat.le_trans this h))⟩
          have HP4 := Aside0.mk hp4
          have HB4 := Aside0.mk hb4
          have HH4 : Aside0 (H3 ≤ w4.heap.size) := ⟨Nat.le_trans HH.out hs4⟩
          clear hq4 hp4 hb4 hs4
          rcases HCC.out with hc | hc
          · subst hc
            have hvl : vs = [] := List.eq_nil_of_length_eq_zero (by have := HNL.out; omega)
            have HVL := Aside0.mk hvl
            clear hvl
            go_wp2_with fail
            exact ⟨⟨i + 1, some ad', 0, xs ++ us, [], by omega, by omega, rfl, by go_num, by simp, by simp, ⟨fun h => by cases h⟩, ⟨by have := HBX2.out; rw [HVL.out] at this; exact this⟩, ⟨C_take HUS.out 0 (Nat.zero_le _)⟩, HB4, HH4, HP4, HQ4⟩, by simp [intOf]; omega⟩
          · go_wp2_with fail
            have hvl : vs = [] := List.eq_nil_of_length_eq_zero (by have := HNL.out; omega)
            exact ⟨⟨i + 1, some (ad'.add us.length), c' - us.length, xs ++ us, [], by omega, by omega, (by simp), by go_num, by simp, by simp, ⟨fun h => by cases h⟩, ⟨by have := HBX2.out; rw [hvl] at this; exact this⟩, ⟨by have := HVS.out ad' rfl; rw [hvl] at this; exact this⟩, HB4, HH4, HP4, HQ4⟩, by simp [intOf]; omega⟩
    · have HZB : Aside0 (Bytes zs ∧ xs.length + zs.length ≤ 65536) := ⟨by
        have h1 := congrArg List.length HBX.out
        simp only [List.length_append] at h1
        refine ⟨fun x hx => ?_, by omega⟩
        have h2 := HBB.out
        rw [HBX.out] at h2
        exact h2 x (List.mem_append_right _ hx)⟩
      have hd21 : Aside0 (∀ k, F2 q H3 k → ¬ F1 w.heap.size q H3 k) := ⟨fun k h1 h2 => by have := h2.1; have := h2.2.2; rcases h1 with h | h <;> omega⟩
      have hd12 : Aside0 (∀ k, F1 w.heap.size q H3 k → ¬ F2 q H3 k) := ⟨fun k h1 h2 => hd21.out k h2 h1⟩
      have hF2 : Aside0 (∀ k, F2 q H3 k → w.heap.size ≤ k) := ⟨fun k h => by have := HH3.out.2; have := HPW.out.2; rcases h with h | h <;> omega⟩
      have hF1 : Aside0 (∀ k, F1 w.heap.size q H3 k → w.heap.size ≤ k) := ⟨fun k h => h.2.1⟩
      rcases hend with rfl | ⟨hlt, rfl⟩
      all_goals
        go_wp2_with fail
        refine (two_put HQ.out HP.out hd21.out hF2.out HB.out (Kd.C_below HZ.out HB.out) HZB.out.1).mono ?_
        rw [put_room HZB.out.2, ← HBX.out]
        rintro e w4 ⟨rfl, hq4, hp4, hs4, hb4⟩
        have HQ4 : Aside0 (StreamAt w4 q ⟨0, b, false⟩ (F2 q H3)) := ⟨hq4.mono (fun k h _ => by have := HH.out; rcases h with h | h; exact h; exact .inr (Nat.le_trans this h))⟩
        have HP4 := Aside0.mk hp4
        have HB4 := Aside0.mk hb4
        have HH4 : Aside0 (H3 ≤ w4.heap.size) := ⟨Nat.le_trans HH.out hs4⟩
        clear hq4 hp4 hb4 hs4
        go_wp2_with fail
        refine (two_end HP4.out HQ4.out hd12.out hF1.out HB4.out).mono ?_
        rw [show SS.fin ⟨0, b, false⟩ = (⟨0, b, true⟩, 0) from rfl]
        rintro e w5 ⟨rfl, hp5, hq5, hs5, hb5⟩
        have HP5 := Aside0.mk hp5
        have HQ5 := Aside0.mk hq5
        have HB5 := Aside0.mk hb5
        have HH5 : Aside0 (H3 ≤ w5.heap.size) := ⟨Nat.le_trans HH4.out hs5⟩
        clear hp5 hq5 hb5 hs5
        go_wp2_with fail
        refine (two_end HQ5.out HP5.out hd21.out hF2.out HB5.out).mono ?_
        rw [show SS.fin ⟨0, b, false⟩ = (⟨0, b, true⟩, 0) from rfl]
        rintro e w6 ⟨rfl, hq6, hp6, hs6, hb6⟩
        obtain ⟨H4, hH4⟩ : ∃ H4, H4 = w6.heap.size := ⟨_, rfl⟩
        have HP6 := Aside0.mk hp6
        have HQ6 : Aside0 (StreamAt w6 q ⟨0, b, true⟩ (F3 q H3 H4)) := ⟨hq6.mono (fun k h hlt => by rcases h with h | h; exact .inl h; exact .inr ⟨h, by omega⟩)⟩
        have HB6 := Aside0.mk hb6
        have HH6 : Aside0 (H4 ≤ w6.heap.size) := ⟨by omega⟩
        have HQL : Aside0 (q < H4) := ⟨by rw [hH4]; exact hq6.is.1⟩
        clear hq6 hp6 hb6 hs6 hH4
        have hd31 : Aside0 (∀ k, F3 q H3 H4 k → ¬ F1 w.heap.size q H3 k) := ⟨fun k h1 h2 => by have := h2.1; have := h2.2.2; rcases h1 with h | h <;> omega⟩
        have hd13 : Aside0 (∀ k, F1 w.heap.size q H3 k → ¬ F3 q H3 H4 k) := ⟨fun k h1 h2 => hd31.out k h2 h1⟩
        have hF3 : Aside0 (∀ k, F3 q H3 H4 k → w.heap.size ≤ k) := ⟨fun k h => by have := HH3.out.2; have := HPW.out.2; rcases h with h | h <;> omega⟩
        go_wp2_with fail
        go_loopw [12] (fun v12 wr => ∃ (j : Nat) (S : SS), j ≤ takes.length ∧ v12 = .int .i64 j ∧ Aside0 (Below w.heap.size w wr) ∧ Aside0 (H4 ≤ wr.heap.size) ∧ Aside0 (StreamAt wr p S (F1 w.heap.size q H3)) ∧ Aside0 (StreamAt wr q S (F3 q H3 H4))) (fun v _ => takes.length - (intOf v).toNat)
        case atStart => exact ⟨0, _, by omega, rfl, HB6, HH6, HP6, HQ6⟩
        case round =>
          obtain ⟨j, S, hj, rfl, HBr, HHr, HPr, HQr⟩ := hrel
          by_cases hlt2 : j < takes.length
          · obtain ⟨ad, e, hcell⟩ := C_num HT.out hlt2
            subst e
            have hxb : takes.getD j 0 ≤ 9223372036854775807 := (HTA.out _ (by rw [List.getD_eq_getElem?_getD, List.getElem?_eq_getElem hlt2]; exact List.getElem_mem hlt2)).2
            obtain ⟨x, hx⟩ : ∃ x, x = takes.getD j 0 := ⟨_, rfl⟩
            rw [← hx] at hcell hxb
            clear hx
            have HCL : Aside0 (∀ W, Below w.heap.size w W → W.cell? (ad.add j) = some (.int .i64 x)) := ⟨fun W hW => (hW.cell (World.block_lt_of_cell? _ _ hcell)).trans hcell⟩
            clear hcell
            have hcell := HCL.out _ HBr.out
            go_wp2_with fail
            refine (two_get (n := x) HPr.out HQr.out hd13.out hF1.out HBr.out hxb).mono ?_
            rintro e w7 ⟨A7, c7, rfl, hp7, hq7, ho7, hk7, hb7⟩
            have hcell7 := HCL.out _ hb7
            have HP7 := Aside0.mk hp7
            have HQ7 := Aside0.mk hq7
            have HO7 := Aside0.mk ho7
            have HB7 := Aside0.mk hb7
            have HS7 := Aside0.mk hk7.size
            clear hcell hp7 hq7 ho7 hk7 hb7
            go_wp2_with fail
            refine (two_get (n := x) HQ7.out HP7.out hd31.out hF3.out HB7.out hxb).mono ?_
            rintro e w8 ⟨A8, c8, rfl, hq8, hp8, ho8, hk8, hb8⟩
            have hs8 := ho8.string
            have hs7 := (HO7.out.kept hk8 (fun k h1 h2 => by have := HHr.out; have := HQL.out; rcases h2 with h | h <;> omega)).string
            have HP8 := Aside0.mk hp8
            have HQ8 := Aside0.mk hq8
            have HB8 := Aside0.mk hb8
            have HH8 : Aside0 (H4 ≤ w8.heap.size) := ⟨Nat.le_trans (Nat.le_trans HHr.out HS7.out) hk8.size⟩
            obtain ⟨S2, hS2⟩ : ∃ S2, S2 = (S.get x).st := ⟨_, rfl⟩
            rw [← hS2] at HP8 HQ8
            obtain ⟨str, hstr⟩ : ∃ str, str = strOfNums (S.get x).out := ⟨_, rfl⟩
            rw [← hstr] at hs7 hs8
            obtain ⟨n, hn⟩ : ∃ n, n = (S.get x).out.length := ⟨_, rfl⟩
            rw [← hn] at hs7 hs8 ⊢
            obtain ⟨er, her⟩ : ∃ er, er = (S.get x).err := ⟨_, rfl⟩
            rw [← her]
            obtain ⟨wh, hwh⟩ : ∃ wh, wh = (S.get x).whole := ⟨_, rfl⟩
            rw [← hwh]
            clear hcell7 hq8 hp8 ho8 hk8 hb8 hS2 hstr hn her hwh hxb HP7 HQ7 HO7 HCL
            go_wp2_with fail
            exact ⟨⟨j + 1, S2, by omega, by go_num, HB8, HH8, HP8, HQ8⟩, by simp [intOf]; omega⟩
          · obtain rfl : j = takes.length := by omega
            go_wp2_with fail
            refine (salive_calls _).mono ?_
            rintro e w7 ⟨rfl, hb7⟩
            have HP7 := Aside0.mk (HPr.out.below hb7)
            have HQ7 := Aside0.mk (HQr.out.below hb7)
            have HB7 := Aside0.mk (HBr.out.trans (hb7.mono HBr.out.size))
            clear hb7
            go_wp2_with fail
            refine (sheld_calls _ p _ _ HP7.out).mono ?_
            rintro e w8 ⟨rfl, rfl⟩
            go_wp2_with fail
            refine (sheld_calls _ q _ _ HQ7.out).mono ?_
            rintro e w9 ⟨rfl, rfl⟩
            go_wp2_with fail
            go_ret
            exact ⟨rfl, HB7.out⟩
theorem rpieces_calls (w : World) (b cuts takes : List Int) (A B D : Option Addr) (ca cb cd : Nat) (ha : Kd.C (Kd.int .u8) w A b.length b) (hb : ∀ x ∈ b, (Lit.int .u8 x).wf = true) (hc : Kd.C (Kd.int .i64) w B cuts.length cuts) (ht : Kd.C (Kd.int .i64) w D takes.length takes) (hta : ∀ x ∈ takes, (Lit.int .i64 x).wf = true)
    (hA : A = none → ca = 0) (hca : b.length ≤ ca) :
    Calls Try.prog 11 #[.slice A b.length ca, .slice B cuts.length cb, .slice D takes.length cd] w (Yes w) := by
  by_cases h1 : 600 < b.length
  · exact rpieces_big w b cuts takes A B D ca cb cd ha.2.1 ht.2.1 (.inl (by omega))
  by_cases h2 : 60 < takes.length
  · exact rpieces_big w b cuts takes A B D ca cb cd ha.2.1 ht.2.1 (.inr ⟨by omega, by omega⟩)
  exact rpieces_small w b cuts takes A B D ca cb cd ha (Rd.bytes_good hb) hc ht (fun x hx => Rd.i64b (hta x hx)) hA hca h1 h2
end Go.Proofs.Ytilogpjbdemceaa.Oct
