import Derived.Test.YtdagpeencafheaaProg
import Derived.Below
import Derived.Deep.Draws
import Derived.Deep.AppendLies
import Derived.Maps.AppendAt
import Derived.OwnWalk
import Derived.Laws.BytesArg
import Derived.Laws.MakeOwn
import Derived.Laws.OwnMore
import Derived.Deep.OwnRows
import Derived.Tactics
import Derived.Lib.ConvBytes
import Derived.Laws.Slices
import Derived.WalkKit
import Derived.KernelRfl
import Derived.RowKit3
import Derived.Deep.LoopGhost
import Derived.Deep.QuietTactic
import Derived.BigQuiet
import Derived.WideLaws
import Derived.Deep.DeepCutAuto
import Derived.Deep.CutBlock
import Derived.Deep.RegionHeld3
import Derived.Laws.Rows
import Derived.Lib.AppendStr
import Derived.ArgAppend
import Derived.Laws.IdiomCopy
import Derived.OrdersHeld
import Derived.Laws.BitsLemmas
import Derived.RowKit
import Derived.WalkSpells
import Derived.Deep.DeepMust
import Derived.Test.YtdagpeencafheaaOctB
namespace Go.Proofs.Ytdagpeencafheaa.Oct
open Go.RowKit Go.Proofs.YtdagpeencafheaaW.PrintWords Go.Proofs.Ytdagpeencafheaa.M
set_option linter.unusedVariables false
set_option linter.unusedSimpArgs false
theorem hex_at (d : Int) (h0 : 0 ≤ d) (h1 : d < 16) : ∀ h : d.toNat < ((⟨#[48, 49, 50, 51, 52, 53, 54, 55, 56, 57, 97, 98, 99, 100, 101, 102]⟩ : ByteArray)).size, ((((⟨#[48, 49, 50, 51, 52, 53, 54, 55, 56, 57, 97, 98, 99, 100, 101, 102]⟩ : ByteArray))[d.toNat]'h).toNat : Int) = hexD d := by
  obtain ⟨n, rfl⟩ := Int.eq_ofNat_of_zero_le h0
  have hn : n < 16 := by omega
  intro h
  simp only [Int.toNat_natCast] at h ⊢
  unfold hexD
  match n, hn with
  | 0, _ | 1, _ | 2, _ | 3, _ | 4, _ | 5, _ | 6, _ | 7, _ | 8, _ | 9, _ | 10, _ | 11, _ | 12, _ | 13, _ | 14, _ | 15, _ => rfl

/-- what stood below, behind a box, a draw and an append -/
theorem below_step' {w wr wb w1 : World} {row : Option Nat} (hb : Below w.heap.size w wr) (h : Below wr.heap.size wr wb) (hg : wb.grownBy w1 row) (hr : ∀ k, row = some k → w.heap.size ≤ k) : Below w.heap.size w w1 := by
  have hb2 : Below w.heap.size w wb := hb.trans (h.mono hb.size)
  exact hb2.grown hg hb2.size hr
theorem below_alloc_drew (wr : World) (o : Obj) : Below wr.heap.size wr (wr.alloc o).drew := below_drew (below_alloc (Below.refl _ _) o)

set_option maxHeartbeats 400000 in
theorem hex_calls (w : World) (A : Option Addr) (c : Nat) (xs : List Int) (hr : Kd.C (Kd.int .u8) w A xs.length xs) (hx : Bytes xs) (hlen : xs.length ≤ 1000000) :
    Calls Try.prog 26 #[.slice A xs.length c] w fun e w' => e = .returned (.string (strOfNums (hexB xs))) ∧ Below w.heap.size w w' := by
  have HR := Aside0.mk hr
  have HX := Aside0.mk hx
  clear hr hx
  go_enter Try.func26, Try.ntmps26
  go_wp2
  go_loopw [3, 5, 8] (fun v3 _ v8 wr => ∃ (k : Nat), k ≤ xs.length ∧ v8 = .int .i64 k ∧ Aside0 (OB wr w.heap.size v3 (hexB (xs.take k))) ∧ Aside0 (Below w.heap.size w wr)) (fun _ _ v _ => xs.length - (intOf v).toNat)
  case atStart => exact ⟨0, by omega, rfl, ⟨OB.nil _ _⟩, ⟨Below.refl _ _⟩⟩
  case round =>
    obtain ⟨k, hk, rfl, HO, HB⟩ := hrel
    by_cases hlt : k < xs.length
    · obtain ⟨ad, e, hcell⟩ := C_byte (Kd.C_below HR.out HB.out) hlt
      cases e
      obtain ⟨x, hx⟩ : ∃ x, x = xs.getD k 0 := ⟨_, rfl⟩
      have hb := HX.out.getD k
      rw [← hx] at hb hcell
      have HX' := Aside0.mk hx
      clear hx
      obtain ⟨hb0, hb1⟩ := hb
      have ha : Go.bits .and .u8 x 15 = x % 16 := u8_and15 x hb0 hb1
      have h1 : x / 16 < 16 := by omega
      have h2 : 0 ≤ x / 16 := by omega
      have h3 : x % 16 < 16 := by omega
      have h4 : 0 ≤ x % 16 := by omega
      have hd1 := hex_at (x / 16) h2 h1
      have hd2 := hex_at (x % 16) h4 h3
      obtain ⟨i0, hi0, hz0, hz1, hz2⟩ := info_parts info_u8
      have hln : (hexB (xs.take k)).length ≤ 2000000 := by rw [hexB_length, List.length_take]; omega
      go_wp2_with fail
      go_region_held3 (fun _ => True) (first | trivial | exact fun _ _ => trivial)
        ((refine step_append_lies _ ?a1 (.tmp 12) (.tmp 19) 22 ?a2 w.heap.size 5 i0 (.int .u8 0) 1 1 Try.underlying22 hi0 hz0 hz1 hz2 rfl Nat.zero_lt_one u3 (hexB (xs.take k)).length (nums .u8 (hexB (xs.take k))) ?a3 ?a4 ⟨wr.heap.size, 0, none⟩ 2 2 [.int .u8 (hexD (x / 16)), .int .u8 (hexD (x % 16))] ?a5 ?a6 ?a7 ?a8 ?a9 ?a10 ?a11 ?a12 (wr.heap.size + 1) ?a13 ?_; (case a1 => rfl); (case a2 => rfl); (case a3 => rfl); (case a4 => exact ((HO.out.alloc _).drew)); (case a5 => rfl); (case a6 => rfl); (case a7 => exact World.news_of_block (cs := #[.int .u8 (hexD (x / 16)), .int .u8 (hexD (x % 16))]) (t := 5) (fr := (0, 0)) (heap_alloc_new wr _)); (case a8 => simp [Value.oneCell']); (case a9 => omega); (case a10 => simp only [maxLen]; omega); (case a11 => omega); (case a12 => simp; have := HB.out.size; omega); (case a13 => simp); intro gg cap w1 hown1 hgrow hat hgl))
      all_goals
        have HO1 : OB w1 w.heap.size (.slice (some ⟨gg, 0, none⟩) ((hexB (xs.take k)).length + 2) cap) (hexB (xs.take (k + 1))) := by
          unfold OB
          rw [hexB_take xs k hlt, ← HX'.out, nums_append, List.length_append]
          exact hown1
        have HO' := Aside0.mk HO1
        have HB1 := Aside0.mk (below_step' HB.out (below_alloc_drew wr _) hgrow (own_base HO.out))
        clear HO1 hown1 hgrow hat hgl
        go_wp2
        go_roundw
        case rel => exact ⟨k + 1, by omega, by go_num, HO', HB1⟩
        case measure => simp [intOf]; omega
    · obtain rfl : k = xs.length := by omega
      have hs := own_string Try.underlying22 Try.underlying5 Try.underlying9 HO.out
      rw [List.take_length] at hs
      go_wp2
      go_ret
      exact ⟨rfl, HB.out⟩
end Go.Proofs.Ytdagpeencafheaa.Oct
