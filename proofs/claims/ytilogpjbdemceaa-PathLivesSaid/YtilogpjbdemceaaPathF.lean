import Derived.Test.YtilogpjbdemceaaPathE
import Derived.Test.YtilogpjbdemceaaRead
namespace Go.Proofs.Ytilogpjbdemceaa.Oct
open Go.RowKit Go.Proofs.YtilogpjbdemceaaW.PrintWords Go.Proofs.Ytilogpjbdemceaa.M
set_option linter.unusedVariables false
set_option linter.unusedSimpArgs false
/-- blocks above a mark that stood at another one -/
abbrev In (base top : Nat) : Nat → Prop := fun k => base ≤ k ∧ k < top
theorem PathAt.near {W : World} {p base : Nat} {s : Bag} (h : PathAt W p s (fun k => base ≤ k)) : PathAt W p s (In base W.heap.size) := h.mono (fun k h1 h2 => ⟨h1, h2⟩)
theorem kept_blk {W W' : World} {base top q : Nat} {o : Obj} (hk : Kept W (In base top) W') (h : W.heap[q]? = some o) (hq : top ≤ q) : W'.heap[q]? = some o := (hk.block q (Array.getElem?_eq_some_iff.1 h).1 (fun h => by have := h.2; omega)).trans h
theorem pret_in {w W W' : World} {p top : Nat} {bag : Bag} {n : Int} {e : Ending} (hB : Below w.heap.size w W) (h : RetP W p (In w.heap.size top) bag n e W') : e = .returned (.int .i64 n) ∧ PathAt W' p bag (fun k => w.heap.size ≤ k) ∧ Kept W (In w.heap.size top) W' ∧ Below w.heap.size w W' := by
  obtain ⟨rfl, h1, h2⟩ := h
  exact ⟨rfl, h1.mono (fun k hk _ => hk.elim (fun h => h.1) (fun h => Nat.le_trans hB.size h)), h2, below_kept hB h2 hB.size (fun k h => h.1)⟩
theorem ptake_in {w W W' : World} {p top : Nat} {r : Bag × List Int × Int} {e : Ending} (hB : Below w.heap.size w W) (h : RetTk W p (In w.heap.size top) r e W') :
    ∃ A d, e = .returned (.tuple #[.slice A r.2.1.length d, .int .i64 r.2.2]) ∧ QB W' 0 (.slice A r.2.1.length d) r.2.1 ∧ PathAt W' p r.1 (fun k => w.heap.size ≤ k) ∧ Kept W (In w.heap.size top) W' ∧ Below w.heap.size w W' := by
  obtain ⟨A, d, rfl, hq, _, h1, h2⟩ := h
  exact ⟨A, d, rfl, hq, h1.mono (fun k hk _ => hk.elim (fun h => h.1) (fun h => Nat.le_trans hB.size h)), h2, below_kept hB h2 hB.size (fun k h => h.1)⟩
theorem lit_reads {W : World} (xs : List Int) (h : xs.length ≤ 100) : Kd.C (Kd.int .u8) (W.alloc (.cells (nums .u8 xs).toArray 5)) (some ⟨W.heap.size, 0, none⟩) xs.length xs := block_reads _ (heap_alloc_new W _) (by omega)
theorem QB.string {W : World} {base : Nat} {v : Value} {xs : List Int} (h : QB W base v xs) : (convert 26 9 v).run Try.prog W = .ok (.string (strOfNums xs)) W := by
  obtain ⟨A, c, rfl, _, _, hr⟩ := h.form
  exact Kd.C_string Try.underlying26 Try.underlying5 Try.underlying9 hr
set_option maxHeartbeats 2000000 in
theorem palive_calls (w : World) : Calls Try.prog 14 #[] w fun e w' => e = .returned (.bool true) ∧ Below w.heap.size w w' := by
  go_enter Try.func14, Try.ntmps14
  go_wp2_with fail
  refine (pnew_at _).mono ?_
  rintro e w1 ⟨rfl, ht, hb⟩
  obtain ⟨p, hp⟩ : ∃ p, p = w.heap.size := ⟨_, rfl⟩
  have HT : Aside0 (PathAt w1 p [] (fun k => w.heap.size ≤ k)) := ⟨by rw [hp]; exact ht.mono (fun k h _ => by rw [h]; exact Nat.le_refl _)⟩
  rw [← hp]
  have HB := Aside0.mk hb
  clear ht hb hp
  go_wp2_with fail
  refine (psend_calls _ p _ _ _ 1 [1] (HT.out.near.below (below_alloc (Below.refl _ _) _)) (lit_reads [1] (by decide)) (by unfold Bytes Byte; decide)).mono ?_
  intro e w2 hr
  obtain ⟨rfl, ht, _, hb⟩ := pret_in (below_alloc HB.out _) hr
  rw [show sendB [] [1] = ([[1]], 0) from rfl] at ht ⊢
  have HT2 := Aside0.mk ht
  have HB2 := Aside0.mk hb
  clear ht hb hr HT HB
  go_wp2_with fail
  refine (pdbl_calls _ p _ _ 0 HT2.out.near).mono ?_
  intro e w3 hr
  obtain ⟨rfl, ht, _, hb⟩ := pret_in HB2.out hr
  rw [show dblB [[1]] 0 = ([[1], [1]], 0) from by kernel_rfl] at ht ⊢
  have HT3 := Aside0.mk ht
  have HB3 := Aside0.mk hb
  clear ht hb hr HT2 HB2
  go_wp2_with fail
  refine (pturn_calls _ p _ _ 1 0 3 HT3.out.near (by unfold Byte; decide)).mono ?_
  rintro e w4 ⟨hr, _⟩
  obtain ⟨rfl, ht, _, hb⟩ := pret_in HB3.out hr
  rw [show turnB [[1], [1]] 1 0 3 = ([[1], [2]], 0) from by kernel_rfl] at ht ⊢
  have HT4 := Aside0.mk ht
  have HB4 := Aside0.mk hb
  clear ht hb hr HT3 HB3
  go_wp2_with fail
  refine (pall_calls _ p _ _ HT4.out).mono ?_
  rintro e w5 ⟨A5, c5, rfl, hx, hb⟩
  have HT5 := Aside0.mk (HT4.out.near.below hb)
  have HB5 := Aside0.mk (HB4.out.trans (hb.mono HB4.out.size))
  have HX5 := Aside0.mk hx
  have HS := Aside0.mk hb.size
  clear hx hb HB4 HT4
  go_wp2_with fail
  refine (ptake_calls _ p _ _ 2 HT5.out).mono ?_
  rw [show takeB [[1], [2]] 2 = ([[1], [2]], [], 4) from by kernel_rfl]
  intro e w6 hr
  obtain ⟨A6, d6, rfl, _, _, hk, hb⟩ := ptake_in HB5.out hr
  have HB6 := Aside0.mk hb
  have hx6 := HX5.out.kept hk (fun k h1 h2 => by have := h2.2; omega)
  obtain ⟨g, off, A0, d0, e0, k0, q0⟩ := hx6.get (k := 0) (by decide)
  obtain ⟨g', off', A1, d1, e1, k1, q1⟩ := hx6.get (k := 1) (by decide)
  subst e0
  obtain ⟨rfl, rfl⟩ : g = g' ∧ off = off' := by simpa using e1
  have s0 := q0.string
  have s1 := q1.string
  change (convert _ _ (.slice A0 1 d0)).run _ _ = .ok (.string (strOfNums [1])) _ at s0
  change (convert _ _ (.slice A1 1 d1)).run _ _ = .ok (.string (strOfNums [2])) _ at s1
  rw [show strOfNums [1] = ⟨#[1]⟩ by decide +kernel] at s0
  rw [show strOfNums [2] = ⟨#[2]⟩ by decide +kernel] at s1
  change w6.cell? ⟨g, off, none⟩ = some (.slice A0 1 d0) at k0
  change w6.cell? ⟨g, off + 1, none⟩ = some (.slice A1 1 d1) at k1
  clear hr hk hb hx6 q0 q1 e1 HX5 HT5
  go_wp2_with fail
  go_ret
  exact ⟨rfl, HB6.out⟩
set_option maxHeartbeats 2000000 in
theorem pnobody_calls (w : World) (A : Option Addr) (c : Nat) (xs : List Int) (i : Int) (hl : xs.length ≤ 9223372036854775807) (hi : -9223372036854775808 ≤ i ∧ i ≤ 9223372036854775807) : Calls Try.prog 7 #[.slice A xs.length c, .int .i64 i] w (Yes w) := by
  by_cases h : 1000 < (xs.length : Int)
  · go_enter Try.func7, Try.ntmps7
    go_wp2_with fail
    refine (palive_calls _).mono ?_
    rintro e w3 ⟨rfl, hb3⟩
    have HB3 := Aside0.mk hb3
    clear hb3
    go_wp2_with fail
    go_ret
    exact ⟨rfl, HB3.out⟩
  · have h' : (xs.length : Int) ≤ 1000 := by omega
    have HNO : Aside0 (takeB [] i = ([], [], 4)) := ⟨by unfold takeB; rw [there_no (by simp; omega), if_neg (by decide)]⟩
    clear h hi
    go_enter Try.func7, Try.ntmps7
    go_wp2_with fail
    obtain ⟨wt, hwt⟩ : ∃ wt, wt = w.alloc (.cells #[.slice none 0 0] 55) := ⟨_, rfl⟩
    obtain ⟨p, hp⟩ : ∃ p, p = w.heap.size := ⟨_, rfl⟩
    have HT : Aside0 (PathAt wt p [] (fun k => w.heap.size ≤ k)) := ⟨⟨_, [], by rw [hwt, hp]; exact heap_alloc_new w _, OwnAt.nil _ _ _ _, ⟨rfl, fun j u l h => by simp at h, List.Pairwise.nil⟩, by show w.heap.size ≤ p; omega, fun k h => (nomatch h), fun u h => (nomatch h), Bag.ok_nil⟩⟩
    have HB : Aside0 (Below w.heap.size w wt) := ⟨by rw [hwt]; exact below_alloc (Below.refl _ _) _⟩
    rw [← hwt]
    rw [← hp]
    clear hwt hp
    refine (ptake_nil _ i).mono ?_
    rintro e w1 ⟨rfl, rfl⟩
    go_wp2_with fail
    refine (ptake_calls _ p _ _ i HT.out.near).mono ?_
    rw [HNO.out]
    intro e w2 hr
    obtain ⟨A2, d2, rfl, _, ht, _, hb⟩ := ptake_in HB.out hr
    have HT2 := Aside0.mk ht
    have HB2 := Aside0.mk hb
    clear hr ht hb HT HB
    go_wp2_with fail
    refine (palive_calls _).mono ?_
    rintro e w3 ⟨rfl, hb3⟩
    have HT3 := Aside0.mk (HT2.out.below hb3)
    have HB3 := Aside0.mk (HB2.out.trans (hb3.mono HB2.out.size))
    clear hb3
    go_wp2_with fail
    refine (send_nil' _ _).mono ?_
    rintro e w4 ⟨rfl, rfl⟩
    go_wp2_with fail
    refine (pdbl_nil _ i).mono ?_
    rintro e w4 ⟨rfl, rfl⟩
    go_wp2_with fail
    refine (pturn_nil _ i i 1).mono ?_
    rintro e w4 ⟨rfl, rfl⟩
    go_wp2_with fail
    refine (pclear_nil _).mono ?_
    rintro e w4 ⟨rfl, rfl⟩
    go_wp2_with fail
    refine (pall_nil _).mono ?_
    rintro e w4 ⟨rfl, rfl⟩
    go_wp2_with fail
    refine (pall_calls _ p _ _ HT3.out).mono ?_
    rintro e w5 ⟨A5, c5, rfl, hx, hb⟩
    have HB5 := Aside0.mk (HB3.out.trans (hb.mono HB3.out.size))
    clear hx hb
    dsimp only [List.length_nil]
    go_wp2_with fail
    go_ret
    exact ⟨rfl, HB5.out⟩
end Go.Proofs.Ytilogpjbdemceaa.Oct
