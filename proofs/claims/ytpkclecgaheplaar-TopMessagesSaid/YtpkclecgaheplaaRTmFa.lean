import Derived.Test.YtpkclecgaheplaaRFrameM
import Derived.Test.YtpkclecgaheplaaRFClone
import Derived.Test.YtpkclecgaheplaaRFSum
import Derived.Test.YtpkclecgaheplaaRFPut
import Derived.Test.YtpkclecgaheplaaRFGet
import Derived.Deep.RegionHeldLaw
namespace Go.Proofs.YtpkclecgaheplaaR.Oct
open Go.RowKit Go.Proofs.YtpkclecgaheplaaRW.PrintWords Go.Proofs.YtpkclecgaheplaaR.M
set_option linter.unusedVariables false
set_option linter.unusedSimpArgs false
def frV (f : FR) (A : Option Addr) (c : Nat) : Value := .agg #[.int .u32 f.s, .int .i64 f.q, .int .i64 f.k, .slice A f.d.length c]
def frC (f : FR) (A : Option Addr) (c : Nat) : Obj := .cells #[.int .u32 f.s, .int .i64 f.q, .int .i64 f.k, .slice A f.d.length c] 39
theorem four_cells {W : World} {b : Nat} {x y z u : Value} {t : TypeId} (h : W.heap[b]? = some (.cells #[x, y, z, u] t (0, 0))) :
    W.cell? ⟨b, 0, none⟩ = some x ∧ W.cell? ⟨b, 1, none⟩ = some y ∧ W.cell? ⟨b, 2, none⟩ = some z ∧ W.cell? ⟨b, 3, none⟩ = some u ∧ W.frozen? ⟨b, 0, none⟩ = false ∧ W.frozen? ⟨b, 1, none⟩ = false ∧ W.frozen? ⟨b, 2, none⟩ = false ∧ W.frozen? ⟨b, 3, none⟩ = false := by
  refine ⟨?_, ?_, ?_, ?_, ?_, ?_, ?_, ?_⟩ <;> simp [World.cell?, World.frozen?, h]
theorem mayB_no {f : FR} (h : ¬ f.mayP) : f.mayB = false := by unfold FR.mayB; simp [h]
theorem mayB_yes {f : FR} (h : f.mayP) : f.mayB = true := by unfold FR.mayB; simp [h]
set_option maxHeartbeats 1000000 in
theorem may_calls (w : World) (f : FR) (A : Option Addr) (c : Nat) (hl : f.d.length ≤ 9223372036854775807) : Calls Try.prog 19 #[.agg #[.int .u32 f.s, .int .i64 f.q, .int .i64 f.k, .slice A f.d.length c]] w fun e w' => e = .returned (.bool f.mayB) ∧ Below w.heap.size w w' := by
  by_cases hp : f.mayP
  · have HV := Aside0.mk (mayB_yes hp)
    obtain ⟨h1, ⟨h2, h3⟩, ⟨h4, h5⟩, h6⟩ := hp
    obtain ⟨s, q, k, d⟩ := f
    dsimp only at h1 h2 h3 h4 h5 h6 hl
    have b1 : (s != 0) = true := by simpa using h1
    have h6' : (d.length : Int) ≤ 256 := by omega
    clear h1 h6
    go_enter Try.func19, Try.ntmps19
    go_wp2
    go_ret
    rw [HV.out]
    exact ⟨rfl, below_alloc (Below.refl _ _) _⟩
  · have HV := Aside0.mk (mayB_no hp)
    have hc : f.s = 0 ∨ (f.s ≠ 0 ∧ f.q < 0) ∨ (f.s ≠ 0 ∧ 0 ≤ f.q ∧ 65535 < f.q) ∨ (f.s ≠ 0 ∧ 0 ≤ f.q ∧ f.q ≤ 65535 ∧ f.k < 0) ∨ (f.s ≠ 0 ∧ 0 ≤ f.q ∧ f.q ≤ 65535 ∧ 0 ≤ f.k ∧ 65535 < f.k) ∨ (f.s ≠ 0 ∧ 0 ≤ f.q ∧ f.q ≤ 65535 ∧ 0 ≤ f.k ∧ f.k ≤ 65535 ∧ 256 < (f.d.length : Int)) := by unfold FR.mayP at hp; omega
    clear hp
    obtain ⟨s, q, k, d⟩ := f
    dsimp only at hc hl
    rcases hc with h1 | ⟨h1, h2⟩ | ⟨h1, h2, h3⟩ | ⟨h1, h2, h3, h4⟩ | ⟨h1, h2, h3, h4, h5⟩ | ⟨h1, h2, h3, h4, h5, h6⟩
    · have b1 : (s != 0) = false := by simpa using h1
      clear h1
      go_enter Try.func19, Try.ntmps19
      go_wp2
      go_ret
      rw [HV.out]
      exact ⟨rfl, below_alloc (Below.refl _ _) _⟩
    all_goals
      have b1 : (s != 0) = true := by simpa using h1
      clear h1
      go_enter Try.func19, Try.ntmps19
      go_wp2
      go_ret
      rw [HV.out]
      exact ⟨by first | rfl | (simp <;> omega), below_alloc (Below.refl _ _) _⟩
/-- two bytes of each number -/
def twosB (l : List Int) : List Int := l.flatMap twoB
theorem twosB_take (l : List Int) (k : Nat) (h : k < l.length) : twosB (l.take (k + 1)) = twosB (l.take k) ++ twoB (l.getD k 0) := by
  rw [List.take_succ_eq_append_getElem h, List.getD_eq_getElem?_getD, List.getElem?_eq_getElem h]
  unfold twosB
  rw [List.flatMap_append]
  simp
theorem twosB_len (l : List Int) : (twosB l).length = 2 * l.length := by
  induction l with
  | nil => rfl
  | cons x l ih =>
    have : twosB (x :: l) = twoB x ++ twosB l := rfl
    rw [this, List.length_append, ih]
    simp [twoB]; omega
theorem C_num {w : World} {A : Option Addr} {n : Nat} {xs : List Int} (h : Kd.C (Kd.int .i64) w A n xs) {k : Nat} (hk : k < n) : ∃ ad, A = some ad ∧ w.cell? (ad.add k) = some (.int .i64 (xs.getD k 0)) := by
  obtain ⟨ad, e, hc⟩ := Kd.at_int h (k : Int) (by omega) (by omega)
  exact ⟨ad, e, hc⟩
theorem grown_step {W W1 W2 : World} {row row2 : Option Nat} (h : W.grownBy W1 row) (h2 : W1.grownBy W2 row2) (hr : row2 = row ∨ ∃ b, row2 = some b ∧ W.heap.size ≤ b) : W.grownBy W2 row := by
  refine ⟨h2.os.trans h.os, h2.tape.trans h.tape, h2.output.trans h.output, Nat.le_trans h.size h2.size, fun k hk hne => (h2.block k (Nat.lt_of_lt_of_le hk h.size) ?_).trans (h.block k hk hne)⟩
  rcases hr with rfl | ⟨b, rfl, hb⟩
  · exact hne
  · intro e
    injection e with e
    omega
set_option maxHeartbeats 1000000 in
theorem two_calls (w : World) (base : Nat) (v : Value) (xs l : List Int) (B : Option Addr) (c : Nat) (ho : OB w base v xs) (hbase : base ≤ w.heap.size) (h : Kd.C (Kd.int .i64) w B l.length l) (hll : l.length ≤ 100) (hxl : xs.length ≤ 1000) (hd : ∀ ad, B = some ad → some ad.block ≠ v.ownBlock) :
    Calls Try.prog 20 #[v, .slice B l.length c] w fun e w' => ∃ v', e = .returned v' ∧ OB w' base v' (xs ++ twosB l) ∧ w.grownBy w' v.ownBlock ∧ (v'.ownBlock = v.ownBlock ∨ ∃ b, v'.ownBlock = some b ∧ w.heap.size ≤ b) := by
  have HO := Aside0.mk ho
  have HL := Aside0.mk h
  have HBS := Aside0.mk hbase
  obtain ⟨A0, c0, rfl, _⟩ := ho.reads
  have HX := Aside0.mk hxl
  have HD := Aside0.mk hd
  obtain ⟨row, hrow⟩ : ∃ row, row = (Value.slice A0 xs.length c0).ownBlock := ⟨_, rfl⟩
  rw [← hrow] at HD ⊢
  have HRW := Aside0.mk hrow
  clear ho h hbase hxl hd hrow
  go_enter Try.func20, Try.ntmps20
  go_wp2_with fail
  go_loopw [0, 9] (fun v0 v9 wr => ∃ k : Nat, k ≤ l.length ∧ v9 = .int .i64 k ∧ Aside0 (OB wr base v0 (xs ++ twosB (l.take k))) ∧ Aside0 (w.grownBy wr row) ∧ Aside0 (v0.ownBlock = row ∨ ∃ b, v0.ownBlock = some b ∧ w.heap.size ≤ b)) (fun _ v _ => l.length - (intOf v).toNat)
  case atStart => exact ⟨0, by omega, rfl, ⟨by rw [List.take_zero]; show OB w base _ (xs ++ []); rw [List.append_nil]; exact HO.out⟩, ⟨⟨rfl, rfl, rfl, Nat.le_refl _, fun _ _ _ => rfl⟩⟩, ⟨.inl HRW.out.symm⟩⟩
  case round =>
    obtain ⟨k, hk, rfl, HOk, HB, HOW⟩ := hrel
    obtain ⟨A1, c1, rfl, _⟩ := HOk.out.reads
    have HBW : Aside0 (base ≤ wr.heap.size) := ⟨Nat.le_trans HBS.out HB.out.size⟩
    by_cases hlt : k < l.length
    · obtain ⟨ad, rfl, hcell⟩ := C_num HL.out hlt
      have HTK := Aside0.mk (twosB_take l k hlt)
      obtain ⟨n, hn⟩ : ∃ n, n = l.getD k 0 := ⟨_, rfl⟩
      rw [← hn] at hcell HTK
      clear hn
      have HCB : Aside0 (wr.cell? (ad.add k) = some (.int .i64 n)) := ⟨by
        have hbk : (ad.add k).block = ad.block := by unfold Addr.add; split <;> rfl
        have hlt := World.block_lt_of_cell? _ _ hcell
        rw [← hcell]
        exact World.cell?_of_block (HB.out.block _ hlt (by rw [hbk]; exact HD.out ad rfl))⟩
      have HLN : Aside0 ((xs ++ twosB (l.take k)).length + 2 ≤ 140737488355328) := ⟨by rw [List.length_append, twosB_len, List.length_take]; have := HX.out; omega⟩
      obtain ⟨ys, hys⟩ : ∃ ys, ys = xs ++ twosB (l.take k) := ⟨_, rfl⟩
      rw [← hys] at HOk HLN HOW
      rw [← hys]
      have HYS := Aside0.mk hys
      clear hys hcell
      have hcell := HCB.out
      go_wp2_with ((with_reducible refine gate_dst (N := 20) rfl ?_); at_builtin; refine app_bytes (W0 := wr) base rfl (.tmp 13) (.tmp 19) rfl (.slice A1 ys.length c1) ys [n / 256 % 256, n % 256] (some ⟨wr.heap.size, 0, none⟩) 2 2 rfl rfl (HOk.out.below (below_alloc (Below.refl _ _) _)) (block_reads [n / 256 % 256, n % 256] (heap_alloc_new wr (.cells (nums .u8 [n / 256 % 256, n % 256]).toArray 5)) (by simp)) ((below_alloc (Below.refl _ _) _).mono HBW.out) (by simp; exact Nat.le_succ_of_le HBW.out) HLN.out ?_; intro v1 w1 ho _ hg hn; have HO1 := Aside0.mk ho; have HG1 := Aside0.mk hg; have HN1 := Aside0.mk hn; clear ho hg hn)
      go_roundw
      case rel =>
        have hg0 : w.grownBy w1 row := grown_step (HB.out.trans (grown_of_below (below_alloc (Below.refl _ _) _) row)) HG1.out (HOW.out.imp id (fun h => h))
        refine ⟨k + 1, by omega, by go_num, ⟨by rw [HTK.out, ← List.append_assoc, ← HYS.out]; exact HO1.out⟩, ⟨hg0⟩, ⟨?_⟩⟩
        rcases HN1.out with h | ⟨b, h, hb⟩
        · have h2 := HOW.out
          rw [← h] at h2
          exact h2
        · exact .inr ⟨b, h, Nat.le_trans HB.out.size (Nat.le_trans (by simp) hb)⟩
      case measure => simp [intOf]; omega
    · obtain rfl : k = l.length := by omega
      have e : xs ++ twosB (l.take l.length) = xs ++ twosB l := by rw [List.take_length]
      have HE := Aside0.mk e
      clear e
      go_wp2_with fail
      go_ret
      refine ⟨_, rfl, ?_, HB.out, HOW.out⟩
      rw [← HE.out]
      exact HOk.out
end Go.Proofs.YtpkclecgaheplaaR.Oct
