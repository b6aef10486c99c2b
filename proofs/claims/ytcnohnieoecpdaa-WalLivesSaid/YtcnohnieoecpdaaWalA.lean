import Derived.Test.YtcnohnieoecpdaaWalM
import Derived.Test.YtcnohnieoecpdaaFCopy
import Derived.Test.YtcnohnieoecpdaaFClone
import Derived.Test.YtcnohnieoecpdaaFSum
import Derived.Test.YtcnohnieoecpdaaFPut
import Derived.Test.YtcnohnieoecpdaaFGet
import Derived.Test.YtcnohnieoecpdaaFRSum
import Derived.Test.YtcnohnieoecpdaaFRPut
import Derived.Test.YtcnohnieoecpdaaOwn
/- wal.Write. -/
namespace Go.Proofs.Ytcnohnieoecpdaa.Oct
open Go.RowKit Go.Proofs.YtcnohnieoecpdaaW.PrintWords Go.Proofs.Ytcnohnieoecpdaa.M
set_option linter.unusedVariables false
set_option linter.unusedSimpArgs false
theorem QB.C {W : World} {base n c : Nat} {A : Option Addr} {xs : List Int} (h : QB W base (.slice A n c) xs) : Kd.C (Kd.int .u8) W A xs.length xs := by
  obtain ⟨A', c', e, _, _, hr⟩ := h.form
  cases e
  exact hr
theorem QB.string {W : World} {base : Nat} {v : Value} {xs : List Int} (h : QB W base v xs) : (convert 22 9 v).run Try.prog W = .ok (.string (strOfNums xs)) W := by
  obtain ⟨A, c, rfl, _, _, hr⟩ := h.form
  exact Kd.C_string Try.underlying22 Try.underlying5 Try.underlying9 hr
theorem putM_four {v : Int} (h0 : 0 ≤ v) (h : v < 4294967296) : putM v 4 = (beB v 4, 0) := by
  unfold putM
  rw [if_neg (by omega), if_neg (by simp; omega)]
  rfl
def RetWW (w : World) (r : List Int × Int) (e : Ending) (w' : World) : Prop := ∃ v, e = .returned (.tuple #[v, .int .i64 r.2]) ∧ QB w' w.heap.size v r.1 ∧ Below w.heap.size w w'
theorem two_cells' {W : World} {b : Nat} {x y : Value} {t : TypeId} (h : W.heap[b]? = some (.cells #[x, y] t (0, 0))) :
    W.cell? ⟨b, 0, none⟩ = some x ∧ W.cell? ⟨b, 1, none⟩ = some y ∧ W.frozen? ⟨b, 0, none⟩ = false ∧ W.frozen? ⟨b, 1, none⟩ = false := by
  refine ⟨?_, ?_, ?_, ?_⟩ <;> simp [World.cell?, World.frozen?, h]
theorem lit_at (W : World) (base b : Nat) (xs : List Int) (h : W.heap.size = b) (hb : base ≤ b) (hm : xs.length ≤ 100) : QB (W.alloc (.cells (nums .u8 xs).toArray 5)) base (.slice (some ⟨b, 0, none⟩) xs.length xs.length) xs := by
  subst h
  exact QB.of_OB (own_lit W base 5 .u8 xs hb (by omega))
set_option maxHeartbeats 4000000 in
theorem wwrite_good (w : World) (r : Rc) (A : Option Addr) (c : Nat) (hr : Kd.C (Kd.int .u8) w A r.2.length r.2) (hb : Bytes r.2) (hg : r.good) :
    Calls Try.prog 12 #[.agg #[.int .i64 r.1, .slice A r.2.length c]] w (RetWW w (writeR r)) := by
  have HV := Aside0.mk (writeR_good hg)
  have HR := Aside0.mk hr
  have HFB := Aside0.mk (Rc.front_bytes hg hb)
  have HFL := Aside0.mk (Rc.front_len r)
  have HAL : Aside0 (r.all = r.front ++ beB (sumOf r.front) 4) := ⟨rfl⟩
  have HFE : Aside0 (r.front = [(r.2.length : Int) / 256, (r.2.length : Int) % 256, r.1] ++ r.2) := ⟨rfl⟩
  obtain ⟨fr, hfr⟩ : ∃ fr, fr = r.front := ⟨_, rfl⟩
  rw [← hfr] at HFB HFL HAL HFE
  have HFR := Aside0.mk hfr
  have hsr := sumOf_range fr
  have HPS := Aside0.mk (putM_four hsr.1 hsr.2)
  obtain ⟨sm, hsm⟩ : ∃ sm, sm = sumOf fr := ⟨_, rfl⟩
  rw [← hsm] at HPS HAL hsr
  have HSM := Aside0.mk hsm
  obtain ⟨hs0, hs1⟩ := hsr
  obtain ⟨k, d⟩ := r
  obtain ⟨hk1, hk2, hd⟩ := hg
  dsimp only at hk1 hk2 hd HR HFE HFL HAL HV HFR ⊢
  have hd' : (d.length : Int) ≤ 1024 := by omega
  have HD := Aside0.mk hd
  have HB0 : Aside0 (Below w.heap.size w ((w.alloc (.cells #[.int .i64 k, .slice A d.length c] 24)).alloc (.cells #[.int .u8 ((d.length : Int) / 256), .int .u8 ((d.length : Int) % 256), .int .u8 k] 5))) := ⟨below_alloc (below_alloc (Below.refl _ _) _) _⟩
  have HQ0 : Aside0 (QB ((w.alloc (.cells #[.int .i64 k, .slice A d.length c] 24)).alloc (.cells #[.int .u8 ((d.length : Int) / 256), .int .u8 ((d.length : Int) % 256), .int .u8 k] 5)) (w.heap.size + 1) (.slice (some ⟨w.heap.size + 1, 0, none⟩) 3 3) [(d.length : Int) / 256, (d.length : Int) % 256, k]) := ⟨lit_at (w.alloc _) (w.heap.size + 1) (w.heap.size + 1) [(d.length : Int) / 256, (d.length : Int) % 256, k] (by simp) (Nat.le_refl _) (by simp)⟩
  have HC0 := Aside0.mk (Kd.C_below HR.out HB0.out)
  have HS0 : Aside0 (w.heap.size + 1 ≤ ((w.alloc (.cells #[.int .i64 k, .slice A d.length c] 24)).alloc (.cells #[.int .u8 ((d.length : Int) / 256), .int .u8 ((d.length : Int) % 256), .int .u8 k] 5)).heap.size) := ⟨by simp only [World.size_alloc]; omega⟩
  have HL0 : Aside0 ([(d.length : Int) / 256, (d.length : Int) % 256, k].length + d.length ≤ 140737488355328) := ⟨by have := HD.out; simp only [List.length_cons, List.length_nil]; omega⟩
  clear hr hb hd hfr hsm
  go_enter Try.func12, Try.ntmps12
  go_wp2_with ((with_reducible refine gate_dst (N := 34) rfl ?_); at_builtin; refine app_q (w.heap.size + 1) rfl (.tmp 31) (.tmp 33) rfl (.slice (some ⟨w.heap.size + 1, 0, none⟩) 3 3) [(d.length : Int) / 256, (d.length : Int) % 256, k] d A d.length c rfl rfl rfl HQ0.out HC0.out HS0.out HL0.out ?_; intro v1 w1 ho1 hg1 _; rw [← HFE.out] at ho1; have HO1 := Aside0.mk ho1; have HS1 : Aside0 (w.heap.size + 1 ≤ w1.heap.size) := ⟨Nat.le_trans HS0.out hg1.size⟩; have HB1 : Aside0 (Below w.heap.size w w1) := ⟨HB0.out.grown hg1 HB0.out.size (fun k e => Nat.le_of_succ_le (HQ0.out.block e).1)⟩; clear ho1 hg1; obtain ⟨A1, c1, rfl, _⟩ := HO1.out.form)
  have HR1 := Aside0.mk HO1.out.C
  have HSZ1 : Aside0 (w.heap.size + 1 ≤ w1.heap.size) := HS1
  refine (sum_calls _ A1 c1 fr HR1.out HFB.out).mono ?_
  rw [← HSM.out]
  rintro e w2 ⟨rfl, rfl⟩
  go_wp2_with fail
  refine (put_calls _ sm 4 hs0 (by omega)).mono ?_
  rintro e w3 ⟨v3, rfl, ho3, hb3⟩
  rw [HPS.out] at ho3 ⊢
  obtain ⟨A3, c3, rfl, hr3⟩ := ho3.reads
  have HR3 := Aside0.mk hr3
  have HO13 := Aside0.mk (HO1.out.below hb3)
  have HB3 := Aside0.mk (HB1.out.trans (hb3.mono HB1.out.size))
  have HS3 : Aside0 (w.heap.size + 1 ≤ w3.heap.size) := ⟨Nat.le_trans HSZ1.out hb3.size⟩
  obtain ⟨z, hz⟩ : ∃ z, z = beB sm 4 := ⟨_, rfl⟩
  have HZL : Aside0 (z.length = 4) := ⟨by rw [hz]; exact beB_length _ _⟩
  rw [← hz] at HR3 HAL ⊢
  have HLL : Aside0 (fr.length + z.length ≤ 140737488355328) := ⟨by have h1 := HFL.out; have h2 := HZL.out; have h3 := HD.out; omega⟩
  clear ho3 hb3 hr3 hz
  go_wp2_with ((with_reducible refine gate_dst (N := 44) rfl ?_); at_builtin; refine app_q (w.heap.size + 1) rfl (.tmp 42) (.tmp 43) rfl (.slice A1 fr.length c1) fr z A3 z.length c3 rfl rfl rfl HO13.out HR3.out HS3.out HLL.out ?_; intro v7 w7 ho7 hg7 _; rw [← HAL.out] at ho7; have HO7 := Aside0.mk ho7; have HB7 := Aside0.mk (HB3.out.grown hg7 HB3.out.size (fun k hk => Nat.le_of_succ_le (HO13.out.block hk).1)); clear ho7 hg7)
  go_ret2
  rw [HV.out]
  exact ⟨_, rfl, HO7.out.lower (Nat.le_succ _), HB7.out⟩
set_option maxHeartbeats 2000000 in
theorem wwrite_calls (w : World) (r : Rc) (A : Option Addr) (c : Nat) (hr : Kd.C (Kd.int .u8) w A r.2.length r.2) (hb : Bytes r.2) :
    Calls Try.prog 12 #[.agg #[.int .i64 r.1, .slice A r.2.length c]] w (RetWW w (writeR r)) := by
  by_cases hg : r.good
  · exact wwrite_good w r A c hr hb hg
  · have hl : r.2.length ≤ 9223372036854775807 := hr.2.1
    have hc : r.1 < 1 ∨ (¬ r.1 < 1 ∧ 255 < r.1) ∨ (¬ r.1 < 1 ∧ ¬ 255 < r.1 ∧ 1024 < (r.2.length : Int)) := by unfold Rc.good at hg; omega
    rcases hc with h1 | ⟨h1, h2⟩ | ⟨h1, h2, h3⟩
    · have HV := Aside0.mk (writeR_kind (r := r) (.inl h1))
      clear hr hb hg
      go_enter Try.func12, Try.ntmps12
      go_wp2
      go_ret2
      rw [HV.out]
      exact ⟨_, rfl, QB.nil _ _, below_alloc (Below.refl _ _) _⟩
    · have HV := Aside0.mk (writeR_kind (r := r) (.inr h2))
      clear hr hb hg
      go_enter Try.func12, Try.ntmps12
      go_wp2
      go_ret2
      rw [HV.out]
      exact ⟨_, rfl, QB.nil _ _, below_alloc (Below.refl _ _) _⟩
    · have HV := Aside0.mk (writeR_long (r := r) (by omega) (by omega))
      clear hr hb hg
      go_enter Try.func12, Try.ntmps12
      go_wp2
      go_ret2
      rw [HV.out]
      exact ⟨_, rfl, QB.nil _ _, below_alloc (Below.refl _ _) _⟩
end Go.Proofs.Ytcnohnieoecpdaa.Oct
