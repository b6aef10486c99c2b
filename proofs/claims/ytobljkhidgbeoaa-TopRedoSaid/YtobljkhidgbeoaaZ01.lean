import Derived.Test.YtobljkhidgbeoaaProg
import Derived.Below
import Derived.Deep.Draws
import Derived.Deep.AppendLies
import Derived.Maps.AppendAt
import Derived.OwnWalk
import Derived.Laws.BytesArg
import Derived.Laws.MakeOwn
import Derived.Laws.OwnMore
import Derived.Deep.OwnRows
import Derived.Tactics
import Derived.Lib.ConvBytes
import Derived.Laws.Slices
import Derived.WalkKit
import Derived.KernelRfl
import Derived.RowKit3
import Derived.Deep.LoopGhost
import Derived.Deep.QuietTactic
import Derived.BigQuiet
import Derived.WideLaws
import Derived.Deep.DeepCutAuto
import Derived.Deep.CutBlock
import Derived.Deep.RegionHeld3
import Derived.Laws.Rows
import Derived.Lib.AppendStr
import Derived.ArgAppend
import Derived.Laws.IdiomCopy
import Derived.OrdersHeld
import Derived.Laws.BitsLemmas
import Derived.RowKit
import Derived.Test.YtobljkhidgbeoaaWWords
import Derived.WalkSpells
import Derived.Deep.DeepMust
import Derived.Lib.SlBytesConst
import Derived.OpenShut
import Derived.Test.YtobljkhidgbeoaaZ00
namespace Go.Proofs.Ytobljkhidgbeoaa.Oct
open Go.RowKit Go.Proofs.YtobljkhidgbeoaaW.PrintWords Go.Proofs.Ytobljkhidgbeoaa.M
set_option linter.unusedVariables false
set_option linter.unusedSimpArgs false

/-- a byte of a row that is read -/
theorem C_byte {w : World} {A : Option Addr} {n : Nat} {xs : List Int} (h : Kd.C (Kd.int .u8) w A n xs) {k : Nat} (hk : k < n) : ∃ ad, A = some ad ∧ w.cell? (ad.add k) = some (.int .u8 (xs.getD k 0)) := by
  obtain ⟨ad, e, hc⟩ := Kd.at_int h (k : Int) (by omega) (by omega)
  exact ⟨ad, e, hc⟩

theorem info_u8 : (Try.prog.info? 5).map (fun i => (i.zero, i.size, i.bytes)) = some (some (.int .u8 0), 1, 1) := by kernel_rfl

/-- a slice of bytes in memory that the call made -/
def OB (W : World) (base : Nat) (v : Value) (xs : List Int) : Prop := W.ownsRow base 5 1 v xs.length (nums .u8 xs)

theorem OB.nil (W : World) (base : Nat) : OB W base (.slice none 0 0) [] := own_nil W base _ 1

theorem OB.reads {W : World} {base : Nat} {v : Value} {xs : List Int} (h : OB W base v xs) : ∃ A c, v = .slice A xs.length c ∧ Kd.C (Kd.int .u8) W A xs.length xs := by
  obtain ⟨A, c, e, hr⟩ := own_reads h
  exact ⟨A, c, e, Kd.C_of_reads ⟨hr.1, hr.2.1, hr.2.2⟩⟩

/-- what stood below, behind a box, a draw and an append -/
theorem below_step' {w wr wb w1 : World} {row : Option Nat} (hb : Below w.heap.size w wr) (h : Below wr.heap.size wr wb) (hg : wb.grownBy w1 row) (hr : ∀ k, row = some k → w.heap.size ≤ k) : Below w.heap.size w w1 := by
  have hb2 : Below w.heap.size w wb := hb.trans (h.mono hb.size)
  exact hb2.grown hg hb2.size hr

theorem below_alloc_drew (wr : World) (o : Obj) : Below wr.heap.size wr (wr.alloc o).drew := below_drew (below_alloc (Below.refl _ _) o)

theorem OB.below {W W' : World} {base : Nat} {v : Value} {xs : List Int} (h : OB W base v xs) (hb : Below W.heap.size W W') : OB W' base v xs := pw_own_below h hb

theorem OB.lower {W : World} {base base' : Nat} {v : Value} {xs : List Int} (h : OB W base v xs) (hb : base' ≤ base) : OB W base' v xs := own_weaken h hb

theorem OB.string {W : World} {base : Nat} {v : Value} {xs : List Int} (h : OB W base v xs) : (convert 45 9 v).run Try.prog W = .ok (.string (strOfNums xs)) W :=
  own_string Try.underlying45 Try.underlying5 Try.underlying9 h

/-- a block of bytes, read from its head -/
theorem block_reads {W : World} {b : Nat} {e : TypeId} {fr : Nat × Nat} (xs : List Int) (h : W.heap[b]? = some (.cells (nums .u8 xs).toArray e fr)) (hm : xs.length ≤ 9223372036854775807) : Kd.C (Kd.int .u8) W (some ⟨b, 0, none⟩) xs.length xs := by
  refine Kd.C_of_reads (d := 0) ⟨rfl, hm, fun _ => ⟨_, rfl, fun j hj => ?_⟩⟩
  have hadd : (⟨b, 0, none⟩ : Addr).add j = ⟨b, j, none⟩ := add_plain b j
  rw [hadd, cell_of_row W b j _ e fr h]
  simp [nums, List.getElem?_eq_getElem hj, List.getD_eq_getElem?_getD]

theorem heap_alloc_new' (W : World) (o : Obj) (b : Nat) (h : W.heap.size = b) : (W.alloc o).heap[b]? = some o := by rw [← h]; exact heap_alloc_new W o

theorem reads_ints {W : World} {A : Option Addr} {m : Nat} {ys : List Int} (h : Kd.C (Kd.int .u8) W A m ys) : ReadsInt W .u8 A m ys := by
  have h' := Kd.reads_of_C (d := (0 : Int)) h
  exact ⟨h'.1, h'.2.1, h'.2.2⟩

section
variable {ops : Array Oper} {rest : List Oper} {o : Oper} {a : Act} {Q : Exit → Act → World → Prop}
/-- append(v, ys...): bytes that are read, behind bytes of the call's own -/
theorem app_bytes {W0 W : World} (base : Nat) (hgd : o.guard = none) (s x : Operand) (ho : o.op = .call { callee := .builtin .append, args := #[s, x], argTypes := #[45, 45] })
    (v : Value) (xs ys : List Int) (A : Option Addr) (m c : Nat) (hs : a.eval s = v) (hx : a.eval x = .slice A m c) (HO : OB W base v xs) (HR : Kd.C (Kd.int .u8) W A m ys)
    (HB : Below base W0 W) (hbase : base ≤ W.heap.size) (hl : xs.length + m ≤ 140737488355328)
    (h : ∀ v1 w1, OB w1 base v1 (xs ++ ys) → Below base W0 w1 → W.grownBy w1 v.ownBlock → (v1.ownBlock = v.ownBlock ∨ ∃ b, v1.ownBlock = some b ∧ W.heap.size ≤ b) → wpList Try.prog ops Q rest (a.put o.dst v1) w1) :
    wpList Try.prog ops Q (o :: rest) a W :=
  print_append_row base hgd s x 45 5 .u8 1 ho Try.underlying45 info_u8 (by omega) v xs ys A m c hs hx HO (reads_ints HR) HB hbase (by omega) h
end

/-- what a law says at its end -/
def Yes (w : World) (e : Ending) (w' : World) : Prop := e = .returned (.bool true) ∧ Below w.heap.size w w'

/-- a row of bytes that came in, as the row's frame has it -/
abbrev InRow (w : World) (a0 : Option Addr) (len0 cap0 : Nat) (z0 : List Int) : Prop := (a0 = none ∧ len0 = 0 ∧ cap0 = 0 ∧ z0 = []) ∨ ∃ x, a0 = some x ∧ len0 ≤ cap0 ∧ cap0 ≤ maxLen ∧ z0.length = cap0 ∧ (∀ i, i < z0.length → w.cell? (x.add i) = some (.int .u8 (z0.getD i 0))) ∧ ∀ n ∈ z0, (Lit.int .u8 n).wf = true

theorem byte_wf {x : Int} (h : (Lit.int .u8 x).wf = true) : Byte x := by
  have := Go.bounds_u8 h
  unfold Byte
  omega

theorem in_row {w : World} {a0 : Option Addr} {len0 cap0 : Nat} {z0 : List Int} (h : InRow w a0 len0 cap0 z0) : ∃ l0, len0 = l0.length ∧ Kd.C (Kd.int .u8) w a0 l0.length l0 ∧ Bytes l0 ∧ l0.length ≤ cap0 := by
  obtain ⟨l0, rfl, hr0, hm0, hw0, hc0⟩ := ReadsInt.ofRowC h
  exact ⟨l0, rfl, Kd.C_of_reads (d := (0 : Int)) hr0, fun x hx => byte_wf (hw0 x hx), hc0⟩

theorem u8_xor {x y : Int} (hx0 : 0 ≤ x) (hx : x < 256) (hy0 : 0 ≤ y) (hy : y < 256) : Go.bits .xor .u8 x y = ((x.toNat ^^^ y.toNat : Nat) : Int) := by
  obtain ⟨a, rfl⟩ := Int.eq_ofNat_of_zero_le hx0
  obtain ⟨b, rfl⟩ := Int.eq_ofNat_of_zero_le hy0
  have ha : a < 2 ^ 8 := by omega
  have hb : b < 2 ^ 8 := by omega
  have h : a ^^^ b < 2 ^ 8 := Nat.xor_lt_two_pow ha hb
  have ha' : a % 2 ^ IntKind.u8.bits = a := Nat.mod_eq_of_lt ha
  have hb' : b % 2 ^ IntKind.u8.bits = b := Nat.mod_eq_of_lt hb
  simp only [Go.bits, BitVec.ofInt_natCast, BitVec.toNat_xor, BitVec.toNat_ofNat, ha', hb', Int.toNat_natCast]
  exact wraps_u8 _ (by omega) (by omega)

/-- two cells of a block of the call's own, and where they stay -/
theorem two_cells {W W' : World} {b : Nat} {x y : Value} {t : TypeId} (h : W.heap[b]? = some (.cells #[x, y] t (0, 0))) :
    W.cell? ⟨b, 0, none⟩ = some x ∧ W.cell? ⟨b, 1, none⟩ = some y ∧ W.frozen? ⟨b, 0, none⟩ = false ∧ W.frozen? ⟨b, 1, none⟩ = false := by
  refine ⟨?_, ?_, ?_, ?_⟩ <;> simp [World.cell?, World.frozen?, h]

theorem str_at (s : ByteArray) (k : Nat) : ∀ h : k < s.size, ((s[k]'h).toNat : Int) = (bytesOf s).getD k 0 := fun h => by
  have h1 := bt_at s (k : Int) (by rw [Int.toNat_natCast]; exact h)
  have h2 := rd_bytesOf s (k : Int)
  simp only [Int.toNat_natCast] at h1
  rw [h1, ← h2]
  rfl

theorem bytesOf_bytes (s : ByteArray) : Bytes (bytesOf s) := fun x hx => by
  obtain ⟨b, _, rfl⟩ := List.mem_map.1 hx
  have := b.toNat_lt
  unfold Byte
  omega

/-- one step of a region that draws its order: append(v, ys...), ys a literal that was just laid -/
theorem step_lit {ops : Array Oper} {o : Oper} {a : Act} {K : Act → World → Prop} {Q : Exit → Act → World → Prop} {E : Prop} {W0 W : World} (base : Nat) (hgd : o.guard = none) (s x : Operand)
    (ho : o.op = .call { callee := .builtin .append, args := #[s, x], argTypes := #[45, 45] })
    (v : Value) (xs ys : List Int) (b : Nat) (hs : a.eval s = v) (hx : a.eval x = .slice (some ⟨b, 0, none⟩) ys.length ys.length) (HO : OB W base v xs) (hb : W.heap[b]? = some (.cells (nums .u8 ys).toArray 5 (0, 0))) (hpos : 0 < ys.length)
    (HB : Below base W0 W) (hbase : base ≤ W.heap.size) (hl : xs.length + ys.length ≤ 140737488355328)
    (h : ∀ v1 w1, OB w1 base v1 (xs ++ ys) → Below base W0 w1 → W.grownBy w1 v.ownBlock → K (a.put o.dst v1) w1) :
    if Region.wanted o (yielded ops a.tmps) = true then Oper.wp Try.prog o a W K Q else E := by
  obtain ⟨i0, hi0, hz0, hz1, hz2⟩ := info_parts info_u8
  refine step_append_lies W hgd s x 45 ho base 5 i0 (.int .u8 0) 1 1 Try.underlying45 hi0 hz0 hz1 hz2 rfl Nat.zero_lt_one v xs.length (nums .u8 xs) hs HO ⟨b, 0, none⟩ ys.length ys.length (nums .u8 ys) hx (by simp [nums]) ?_ ?_ hpos (by simp only [maxLen]; omega) (by omega) hbase W.heap.size rfl ?_
  · have := World.news_of_block hb
    rwa [List.toList_toArray] at this
  · intro u hu
    obtain ⟨n, _, rfl⟩ := List.mem_map.1 hu
    rfl
  · intro g cap w1 hown hg _ _
    refine h _ w1 ?_ (HB.grown hg hbase (own_base HO)) hg
    unfold OB
    rw [nums_append, List.length_append]
    exact hown

theorem blk_keep {W W' : World} {b : Nat} {o : Obj} (h : W.heap[b]? = some o) (hb : Below W.heap.size W W') : W'.heap[b]? = some o := (hb.block b (Array.getElem?_eq_some_iff.1 h).1).trans h

theorem ret_u32 {a b : Int} (h : a = b) : Ending.returned (.int .u32 a) = .returned (.int .u32 b) := by rw [h]

theorem ret_pair {a b c d : Value} (h : a = c) (k : b = d) : Ending.returned (.tuple #[a, b]) = .returned (.tuple #[c, d]) := by rw [h, k]

theorem ret_u8 {a b : Int} (h : a = b) : Ending.returned (.int .u8 a) = .returned (.int .u8 b) := by rw [h]

/-- what stood at w, some new blocks and one old block's turn later -/
def New (W : World) (F : Nat → Prop) : Nat → Prop := fun k => F k ∨ W.heap.size ≤ k
theorem heap_set {W : World} {g i : Nat} {cs : Array Value} {t : TypeId} (v : Value) (hg : W.heap[g]? = some (.cells cs t (0, 0))) : (W.setCell ⟨g, i, none⟩ v).heap[g]? = some (.cells (cs.setIfInBounds i v) t (0, 0)) := heap_setCell_same W g i cs t v hg
/-- a row of bytes that is read, in blocks of bytes that F lets -/
def RB (W : World) (F : Nat → Prop) (A : Option Addr) (xs : List Int) : Prop := Kd.C (Kd.int .u8) W A xs.length xs ∧ ∀ ad, A = some ad → F ad.block ∧ ad.block < W.heap.size
theorem RB.nil (W : World) (F : Nat → Prop) : RB W F none [] := ⟨Kd.C_nil _ _, fun _ h => by cases h⟩
theorem RB.mono {W : World} {F G : Nat → Prop} {A : Option Addr} {xs : List Int} (h : RB W F A xs) (hg : ∀ k, F k → k < W.heap.size → G k) : RB W G A xs := ⟨h.1, fun ad e => ⟨hg _ (h.2 ad e).1 (h.2 ad e).2, (h.2 ad e).2⟩⟩
theorem C_step {W W' : World} {A : Option Addr} {n : Nat} {xs : List Int} (h : Kd.C (Kd.int .u8) W A n xs) (hb : ∀ ad, A = some ad → ad.block < W.heap.size → W'.heap[ad.block]? = W.heap[ad.block]?) : Kd.C (Kd.int .u8) W' A n xs := by
  refine ⟨h.1, h.2.1, fun hn => ?_⟩
  obtain ⟨ad, e, hc⟩ := h.2.2 hn
  refine ⟨ad, e, fun j p hj => ?_⟩
  obtain ⟨c, hs, hr, hcell⟩ := hc j p hj
  refine ⟨c, hs, hr, fun i u hu => ?_⟩
  have hbk : ∀ j, (ad.add j).block = ad.block := fun j => by unfold Addr.add; split <;> rfl
  have hlt := World.block_lt_of_cell? W _ (hcell i u hu)
  rw [← hcell i u hu]
  rw [hbk] at hlt
  exact World.cell?_of_block (by rw [hbk]; exact hb ad e hlt)
theorem RB.step {W W' : World} {F : Nat → Prop} {A : Option Addr} {xs : List Int} (h : RB W F A xs) (hs : W.heap.size ≤ W'.heap.size) (hb : ∀ k, F k → k < W.heap.size → W'.heap[k]? = W.heap[k]?) : RB W' F A xs :=
  ⟨C_step h.1 (fun ad e _ => hb _ (h.2 ad e).1 (h.2 ad e).2), fun ad e => ⟨(h.2 ad e).1, Nat.lt_of_lt_of_le (h.2 ad e).2 hs⟩⟩
theorem RB.below {W W' : World} {F : Nat → Prop} {A : Option Addr} {xs : List Int} (h : RB W F A xs) (hb : Below W.heap.size W W') : RB W' F A xs := h.step hb.size (fun k _ hk => hb.block k hk)
theorem RB.grown {W W' : World} {F : Nat → Prop} {A : Option Addr} {xs : List Int} {row : Option Nat} (h : RB W F A xs) (hg : W.grownBy W' row) (hf : ∀ k, F k → some k ≠ row) : RB W' F A xs := h.step hg.size (fun k hF hk => hg.block k hk (hf k hF))
theorem RB.take {W : World} {F : Nat → Prop} {A : Option Addr} {xs : List Int} (h : RB W F A xs) (n : Nat) : RB W F A (xs.take n) := by
  refine ⟨⟨rfl, Nat.le_trans (by rw [List.length_take]; omega) h.1.2.1, fun hn => ?_⟩, h.2⟩
  rw [List.length_take] at hn
  obtain ⟨ad, e, hc⟩ := h.1.2.2 (by omega)
  refine ⟨ad, e, fun j p hj => hc j p ?_⟩
  rw [List.getElem?_take] at hj
  split at hj
  · exact hj
  · cases hj
/-- what the call owns, read -/
theorem OB.rb {W : World} {base : Nat} {v : Value} {xs : List Int} (h : OB W base v xs) : ∃ A c, v = .slice A xs.length c ∧ xs.length ≤ c ∧ RB W (fun k => base ≤ k) A xs := by
  rcases h.2 with ⟨rfl, hn⟩ | ⟨g, cap, cur, rfl, hb, hh, hc, _⟩
  · obtain rfl : xs = [] := List.eq_nil_of_length_eq_zero hn
    exact ⟨none, 0, rfl, Nat.le_refl _, RB.nil _ _⟩
  · obtain ⟨A, c, e, hr⟩ := h.reads
    injection e with e1 e2 e3
    subst e1
    exact ⟨_, cap, rfl, hc, hr, fun ad e => by injection e with e; subst e; exact ⟨hb, (Array.getElem?_eq_some_iff.1 hh).1⟩⟩

end Go.Proofs.Ytobljkhidgbeoaa.Oct
