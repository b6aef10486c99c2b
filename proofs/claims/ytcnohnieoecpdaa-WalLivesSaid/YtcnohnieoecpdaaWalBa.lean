import Derived.Test.YtcnohnieoecpdaaWalA
import Derived.Test.YtcnohnieoecpdaaSeqB
import Derived.Stop.RegionWithIn
/- wal.walk: the function that tells the records. -/
namespace Go.Proofs.Ytcnohnieoecpdaa.M
theorem getD_drop (b : List Int) (i k : Nat) : (b.drop i).getD k 0 = b.getD (i + k) 0 := by simp [List.getD_eq_getElem?_getD, List.getElem?_drop]
theorem take_of_drop (b : List Int) (i m : Nat) : (b.drop i).take m = (b.take (i + m)).drop i := by rw [List.drop_take]; congr 1; omega
theorem isR_short {b : List Int} {i : Nat} (h : b.length < i + 7) : ¬ isR (b.drop i) := fun h2 => by have := h2.1; rw [List.length_drop] at this; omega
theorem isR_at {b : List Int} {i : Nat} (h7 : i + 7 ≤ b.length) {N : Nat} (hN : (N : Int) = 256 * b.getD i 0 + b.getD (i + 1) 0) :
    lenR (b.drop i) = N ∧ (isR (b.drop i) ↔ b.getD (i + 2) 0 ≠ 0 ∧ N ≤ 1024 ∧ i + 3 + N + 4 ≤ b.length ∧ getF ((b.take (i + 3 + N + 4)).drop (i + 3 + N)) = sumOf ((b.take (i + 3 + N)).drop i)) ∧ recR (b.drop i) = (b.getD (i + 2) 0, (b.take (i + 3 + N)).drop (i + 3)) := by
  have hl : lenR (b.drop i) = N := by
    unfold lenR
    rw [getD_drop, getD_drop, Nat.add_zero]
    omega
  refine ⟨hl, ?_, ?_⟩
  · unfold isR
    rw [hl, getD_drop, List.drop_drop, take_of_drop, take_of_drop, List.length_drop, show i + (3 + N) = i + 3 + N by omega]
    constructor
    · rintro ⟨h1, h2, h3, h4, h5⟩; exact ⟨h2, h3, by omega, h5⟩
    · rintro ⟨h2, h3, h4, h5⟩; exact ⟨by omega, h2, h3, by omega, h5⟩
  · unfold recR
    rw [hl, getD_drop, List.drop_drop, take_of_drop]
end Go.Proofs.Ytcnohnieoecpdaa.M
namespace Go.Proofs.Ytcnohnieoecpdaa.Oct
open Go.RowKit Go.Proofs.YtcnohnieoecpdaaW.PrintWords Go.Proofs.Ytcnohnieoecpdaa.M
set_option linter.unusedVariables false
set_option linter.unusedSimpArgs false
attribute [local go_sem] Oper.semAt_some
/-- what a round is told: where the record ends, its kind, the slice, its bytes -/
abbrev XR := Nat × Int × Value × List Int
abbrev encR (x : XR) : Array Value := #[.int .i64 (x.1 : Int), .agg #[.int .i64 x.2.1, x.2.2.1]]
def Rx (base : Nat) (x : XR) (W : World) : Prop := OB W base x.2.2.1 x.2.2.2
abbrev tell (x : XR) : Nat × Rc := (x.1, x.2.1, x.2.2.2)
def Tx (b : List Int) (pre : List XR) (x : XR) : Prop := (pre ++ [x]).map tell <+: readL 0 b
/-- what lay below a mark, and one block, stand as they stood -/
def Kw (n0 Bs : Nat) (A B : World) : Prop := A.heap.size ≤ B.heap.size ∧ ∀ k, (k < n0 ∨ k = Bs) → k < A.heap.size → B.heap[k]? = A.heap[k]?
theorem Kw.trans {n0 Bs : Nat} {A B C : World} (h : Kw n0 Bs A B) (h2 : Kw n0 Bs B C) : Kw n0 Bs A C := ⟨Nat.le_trans h.1 h2.1, fun k hk hl => (h2.2 k hk (Nat.lt_of_lt_of_le hl h.1)).trans (h.2 k hk hl)⟩
theorem Kw.refl (n0 Bs : Nat) (A : World) : Kw n0 Bs A A := ⟨Nat.le_refl _, fun _ _ _ => rfl⟩
theorem Kw.below {n0 Bs : Nat} {A B : World} (h : Below A.heap.size A B) : Kw n0 Bs A B := ⟨h.size, fun k _ hl => h.block k hl⟩
theorem C_kw {n0 Bs : Nat} {A B : World} {a : Option Addr} {m : Nat} {xs : List Int} (h : Kd.C (Kd.int .u8) A a m xs) (ha : 0 < m → ∀ ad, a = some ad → ad.block < n0) (hk : Kw n0 Bs A B) : Kd.C (Kd.int .u8) B a m xs := by
  refine ⟨h.1, h.2.1, fun hn => ?_⟩
  obtain ⟨ad, e, hc⟩ := h.2.2 hn
  refine ⟨ad, e, fun j p hj => ?_⟩
  obtain ⟨c, hs, hr, hcell⟩ := hc j p hj
  refine ⟨c, hs, hr, fun i u hu => ?_⟩
  have hbk : ∀ j, (ad.add j).block = ad.block := fun j => by unfold Addr.add; split <;> rfl
  have hlt := World.block_lt_of_cell? A _ (hcell i u hu)
  rw [← hcell i u hu]
  rw [hbk] at hlt
  exact World.cell?_of_block (by rw [hbk]; exact hk.2 _ (.inl (ha hn ad e)) hlt)
theorem i64_orb {v x : Int} (h0 : 0 ≤ v) (h : v < 256) (hx0 : 0 ≤ x) (hx : x < 256) : Go.bits .or .i64 (v * 256) x = v * 256 + x :=
  bits_join .i64 63 (by decide) (fun n h0 h1 => by simp [IntKind.wrap, IntKind.bits, IntKind.signed]; omega) 8 _ _ (by omega) (by omega) (by omega) hx0 (by omega) (by omega)
/-- a piece of a text that is read, and its slice -/
theorem piece {W : World} {A : Option Addr} {c : Nat} {b : List Int} {ad : Addr} (hA : A = some ad) (h : Kd.C (Kd.int .u8) W A b.length b) (hc : b.length ≤ c) {lo hi m : Nat} (h1 : lo ≤ hi) (h2 : hi ≤ b.length) (hm : m = hi - lo) :
    ∃ ad5 c5, ((b.take hi).drop lo).length = m ∧ Kd.C (Kd.int .u8) W (some ad5) m ((b.take hi).drop lo) ∧ (if c = lo then A else A.map (·.add (lo * 1))) = some ad5 ∧ c - lo = c5 := by
  have hmid := Kd.C_mid (c := c) h h1 h2 hc
  have hsz : (Kd.int IntKind.u8).sz = 1 := rfl
  rw [hsz] at hmid
  have hl : ((b.take hi).drop lo).length = m := by rw [List.length_drop, List.length_take]; omega
  obtain ⟨ad5, hA5⟩ : ∃ ad5, (if c = lo then A else A.map (·.add (lo * 1))) = some ad5 := by rw [hA]; split <;> exact ⟨_, rfl⟩
  rw [hA5, hl] at hmid
  exact ⟨ad5, _, hl, hmid, hA5, rfl⟩
theorem told {e : Ending} {A B K : Prop} (h : (e = .returned (.bool true) ∧ A ∧ K) ∨ (e = .returned (.bool false) ∧ B ∧ K)) : ∃ bb : Bool, e = .returned (.bool bb) ∧ K ∧ ((bb = true ∧ A) ∨ (bb = false ∧ B)) := by
  rcases h with ⟨h, h2, h3⟩ | ⟨h, h2, h3⟩
  · exact ⟨true, h, h3, .inl ⟨rfl, h2⟩⟩
  · exact ⟨false, h, h3, .inr ⟨rfl, h2⟩⟩
theorem cell_kw {n0 Bs : Nat} {A B : World} {p : Addr} {v : Value} (h : A.cell? p = some v) (hk : Kw n0 Bs A B) (hb : p.block < n0 ∨ p.block = Bs) : B.cell? p = some v :=
  (World.cell?_of_block (hk.2 _ hb (World.block_lt_of_cell? A _ h))).trans h
end Go.Proofs.Ytcnohnieoecpdaa.Oct
