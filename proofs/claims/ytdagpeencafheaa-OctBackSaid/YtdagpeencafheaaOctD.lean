import Derived.Lib.SlBytesConst
import Derived.Test.YtdagpeencafheaaOctC
namespace Go.Proofs.Ytdagpeencafheaa.Oct
open Go.RowKit Go.Proofs.YtdagpeencafheaaW.PrintWords Go.Proofs.Ytdagpeencafheaa.M
set_option linter.unusedVariables false
set_option linter.unusedSimpArgs false
theorem OB.below {W W' : World} {base : Nat} {v : Value} {xs : List Int} (h : OB W base v xs) (hb : Below W.heap.size W W') : OB W' base v xs := pw_own_below h hb
theorem OB.lower {W : World} {base base' : Nat} {v : Value} {xs : List Int} (h : OB W base v xs) (hb : base' ≤ base) : OB W base' v xs := own_weaken h hb
theorem OB.string {W : World} {base : Nat} {v : Value} {xs : List Int} (h : OB W base v xs) : (convert 22 9 v).run Try.prog W = .ok (.string (strOfNums xs)) W :=
  own_string Try.underlying22 Try.underlying5 Try.underlying9 h
/-- a block of bytes, read from its head -/
theorem block_reads {W : World} {b : Nat} {e : TypeId} {fr : Nat × Nat} (xs : List Int) (h : W.heap[b]? = some (.cells (nums .u8 xs).toArray e fr)) (hm : xs.length ≤ 9223372036854775807) : Kd.C (Kd.int .u8) W (some ⟨b, 0, none⟩) xs.length xs := by
  refine Kd.C_of_reads (d := 0) ⟨rfl, hm, fun _ => ⟨_, rfl, fun j hj => ?_⟩⟩
  have hadd : (⟨b, 0, none⟩ : Addr).add j = ⟨b, j, none⟩ := add_plain b j
  rw [hadd, cell_of_row W b j _ e fr h]
  simp [nums, List.getElem?_eq_getElem hj, List.getD_eq_getElem?_getD]

theorem heap_alloc_new' (W : World) (o : Obj) (b : Nat) (h : W.heap.size = b) : (W.alloc o).heap[b]? = some o := by rw [← h]; exact heap_alloc_new W o
theorem reads_ints {W : World} {A : Option Addr} {m : Nat} {ys : List Int} (h : Kd.C (Kd.int .u8) W A m ys) : ReadsInt W .u8 A m ys := by
  have h' := Kd.reads_of_C (d := (0 : Int)) h
  exact ⟨h'.1, h'.2.1, h'.2.2⟩

section
variable {ops : Array Oper} {rest : List Oper} {o : Oper} {a : Act} {Q : Exit → Act → World → Prop}
/-- append(v, ys...): bytes that are read, behind bytes of the call's own -/
theorem app_bytes {W0 W : World} (base : Nat) (hgd : o.guard = none) (s x : Operand) (ho : o.op = .call { callee := .builtin .append, args := #[s, x], argTypes := #[22, 22] })
    (v : Value) (xs ys : List Int) (A : Option Addr) (m c : Nat) (hs : a.eval s = v) (hx : a.eval x = .slice A m c) (HO : OB W base v xs) (HR : Kd.C (Kd.int .u8) W A m ys)
    (HB : Below base W0 W) (hbase : base ≤ W.heap.size) (hl : xs.length + m ≤ 140737488355328)
    (h : ∀ v1 w1, OB w1 base v1 (xs ++ ys) → Below base W0 w1 → W.grownBy w1 v.ownBlock → (v1.ownBlock = v.ownBlock ∨ ∃ b, v1.ownBlock = some b ∧ W.heap.size ≤ b) → wpList Try.prog ops Q rest (a.put o.dst v1) w1) :
    wpList Try.prog ops Q (o :: rest) a W :=
  print_append_row base hgd s x 22 5 .u8 1 ho Try.underlying22 info_u8 (by omega) v xs ys A m c hs hx HO (reads_ints HR) HB hbase (by omega) h
end

set_option maxHeartbeats 400000 in
theorem copy_calls (w : World) (A : Option Addr) (c : Nat) (xs : List Int) (hr : Kd.C (Kd.int .u8) w A xs.length xs) (hlen : xs.length ≤ 140737488355328) :
    Calls Try.prog 13 #[.slice A xs.length c] w fun e w' => ∃ v, e = .returned v ∧ OB w' w.heap.size v xs ∧ Below w.heap.size w w' := by
  have HR := Aside0.mk hr
  clear hr
  go_enter Try.func13, Try.ntmps13
  go_wp2_with (at_builtin; refine app_bytes (W0 := w) w.heap.size rfl (.tmp 4) (.tmp 5) rfl (.slice none 0 0) [] xs A xs.length c rfl rfl (OB.nil _ _) HR.out (Below.refl _ _) (Nat.le_refl _) ?aL ?_; (case aL => simpa using hlen); intro v1 w1 ho hb _ _; rw [List.nil_append] at ho; have HO := Aside0.mk ho; have HB := Aside0.mk hb; clear ho hb)
  go_ret
  exact ⟨_, rfl, HO.out, HB.out⟩

set_option maxHeartbeats 400000 in
theorem alive_calls (w : World) : Calls Try.prog 12 #[] w fun e w' => e = .returned (.bool true) ∧ Below w.heap.size w w' := by
  have kc := fun (w : World) (C : Array Value) (n c : Nat) => Lib.run_convert_bytes_const (P := Try.prog) w 22 5 C n c Try.underlying22 Try.underlying5
  go_enter Try.func12, Try.ntmps12
  go_wp2_with fail
  refine (put_calls _ 258 2 (by decide) (by decide)).mono ?_
  rintro e w1 ⟨r1, rfl, ho1, hb1⟩
  rw [show putM 258 2 = ([1, 2], 0) by decide +kernel] at *
  dsimp only at *
  have HO1 := Aside0.mk ho1
  have HB1 := Aside0.mk hb1
  clear ho1 hb1
  go_wp2_with fail
  refine (put_calls _ 256 1 (by decide) (by decide)).mono ?_
  rintro e w2 ⟨r2, rfl, ho2, hb2⟩
  rw [show putM 256 1 = ([], 10) by decide +kernel] at *
  dsimp only at *
  have HB2 := Aside0.mk (HB1.out.trans (hb2.mono HB1.out.size))
  have hs := (HO1.out.below hb2).string
  rw [show strOfNums [1, 2] = ⟨#[1, 2]⟩ by decide +kernel] at hs
  clear ho2 hb2
  go_wp2_with fail
  refine (sum_calls _ _ 3 [97, 98, 99] (block_reads _ (heap_alloc_new w2 (.cells (nums .u8 [97, 98, 99]).toArray 5 (3, 4))) (by decide)) (by unfold Bytes Byte; decide)).mono ?_
  rintro e w3 ⟨rfl, rfl⟩
  rw [show sumOf [97, 98, 99] = 38600999 by decide +kernel]
  go_wp2_with fail
  refine (hex_calls _ _ 1 [10] (block_reads (b := w2.heap.size + 1) (e := 5) (fr := (0, 0)) [10] (heap_alloc_new' (w2.alloc _) _ _ (by simp)) (by decide)) (by unfold Bytes Byte; decide) (by decide)).mono ?_
  rintro e w4 ⟨rfl, hb4⟩
  rw [show strOfNums (hexB [10]) = ⟨#[48, 97]⟩ by decide +kernel]
  have HB4 := Aside0.mk ((below_alloc (below_alloc HB2.out _) _).trans (hb4.mono (below_alloc (below_alloc HB2.out _) _).size))
  clear hb4
  go_wp2_with fail
  go_ret
  exact ⟨rfl, HB4.out⟩
end Go.Proofs.Ytdagpeencafheaa.Oct
