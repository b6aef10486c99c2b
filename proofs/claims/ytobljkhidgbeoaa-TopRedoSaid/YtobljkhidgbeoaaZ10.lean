
import Derived.Test.YtobljkhidgbeoaaZ09
/- The store of keys: change, Put, Del. -/
namespace Go.Proofs.Ytobljkhidgbeoaa.Oct
open Go.RowKit Go.Proofs.YtobljkhidgbeoaaW.PrintWords Go.Proofs.Ytobljkhidgbeoaa.M
set_option linter.unusedVariables false
set_option linter.unusedSimpArgs false
theorem Sep.row_open {e : TypeId} {size n : Nat} {v : Value} {vs : List Value} {l : List Part} {W : World} {F : Nat → Prop} (h : Sep (row e size v n vs :: l) W F) :
    (v = .slice none 0 0 ∧ n = 0 ∧ vs = []) ∨ ∃ g off cap cur, v = .slice (some ⟨g, off, none⟩) n cap ∧ n ≤ cap ∧ cap ≤ maxLen ∧ off + cap * size ≤ cur.size ∧ (cur.toList.drop off).take (n * size) = vs ∧ vs.length = n * size ∧ Sep (pt g (.cells cur e (0, 0)) :: l) W F := by
  have hl := h.head.1.1
  rcases h.head.1.2 with ⟨e1, e2⟩ | ⟨g, off, cap, cur, e1, hb, hh, h1, h2, h3, h4⟩
  · exact .inl ⟨e1, e2, List.eq_nil_of_length_eq_zero (by rw [hl, e2, Nat.zero_mul])⟩
  · exact .inr ⟨g, off, cap, cur, e1, h1, h2, h3, h4, hl, h.imp (fun G hg => ⟨hg.2 g (by rw [e1]; rfl), hh⟩)⟩
theorem Sep.row_shut {e : TypeId} {size n g off cap : Nat} {cur : Array Value} {vs : List Value} {l : List Part} {W : World} {F : Nat → Prop} (h : Sep (pt g (.cells cur e (0, 0)) :: l) W F) (h1 : n ≤ cap) (h2 : cap ≤ maxLen) (h3 : off + cap * size ≤ cur.size) (h4 : (cur.toList.drop off).take (n * size) = vs) (h5 : vs.length = n * size) : Sep (row e size (.slice (some ⟨g, off, none⟩) n cap) n vs :: l) W F :=
  h.imp (fun G hg => ⟨⟨h5, .inr ⟨g, off, cap, cur, rfl, Nat.zero_le _, hg.2, h1, h2, h3, h4⟩⟩, fun k hk => by
    have : g = k := by simpa [Value.ownBlock] using hk
    rw [← this]; exact hg.1⟩)
theorem add_plain' (g off i : Nat) : (⟨g, off, none⟩ : Addr).add i = ⟨g, off + i, none⟩ := by
  unfold Addr.add
  split
  · rename_i h; rw [h]; rfl
  · rfl
theorem put_id {κ α : Type} [DecidableEq κ] {L : List (κ × α)} {k : κ} {x : α} (hn : (L.map (·.1)).Nodup) (h : look L k = some x) : put L k x = L := by
  unfold put
  rw [h]
  simp only [Option.isSome_some, if_true]
  rw [List.map_congr_left (g := id) (fun q hq => ?_)]
  · simp
  · split
    · rename_i e
      have := look_of_mem hn (k := q.1) (x := q.2) hq
      rw [e, h] at this
      injection this with this
      exact Prod.ext rfl this
    · rfl
theorem chCells_app (l : List Ch) (c : Ch) : chCells (l ++ [c]) = chCells l ++ c.cs := by simp [chCells]
theorem chCells_set (l : List Ch) (i : Nat) (c : Ch) (hi : i < l.length) : chCells (l.set i c) = (((chCells l).set (i * 3) (.int .i64 c.kind)).set (i * 3 + 1) (.int .i64 c.key)).set (i * 3 + 2) (.int .u64 c.val) := by
  induction l generalizing i with
  | nil => simp at hi
  | cons d l ih =>
    cases i with
    | zero => rfl
    | succ i =>
      have e1 : chCells ((d :: l).set (i + 1) c) = d.cs ++ chCells (l.set i c) := rfl
      have e2 : chCells (d :: l) = d.cs ++ chCells l := rfl
      have e3 : d.cs.length = 3 := rfl
      rw [e1, e2, ih i (by simpa using hi), set_append_right' _ _ _ _ (by omega), set_append_right' _ _ _ _ (by omega), set_append_right' _ _ _ _ (by omega), e3]
      have f1 : (i + 1) * 3 - 3 = i * 3 := by omega
      have f2 : (i + 1) * 3 + 1 - 3 = i * 3 + 1 := by omega
      have f3 : (i + 1) * 3 + 2 - 3 = i * 3 + 2 := by omega
      rw [f1, f2, f3]
theorem window_set (cur : List Value) (off n j : Nat) (v : Value) : ((cur.set (off + j) v).drop off).take n = ((cur.drop off).take n).set j v := by
  rw [List.drop_set, if_neg (by omega), Nat.add_sub_cancel_left, List.take_set]
def KvR (b : Nat) (r : Raw) (x : KV × Int) (e : Ending) (l' : List Part) : Prop := ∃ r' M', e = .returned (.int .i64 x.2) ∧ KvIs r' M' x.1 ∧ r'.rest = r.rest ∧ l' = kvL b r' M' x.1.locks
theorem touch_prep {s : KV} {n key : Int} {a : Bool} {y : KW} (h : (s.touch n key a).2 = 0) (hy : look (s.touch n key a).1.works n = some y) : y.prep = false := by
  unfold KV.touch at h hy
  by_cases h1 : n < 1 ∨ key < 0 ∨ 16 ≤ key
  · rw [if_pos h1] at h; simp at h
  · rw [if_neg h1] at h hy
    cases hl : look s.works n with
    | none =>
      rw [hl] at h hy
      dsimp only at h hy
      by_cases hc : (lkTake s.locks n key a).2 = 0
      · rw [if_pos hc] at hy
        dsimp only at hy
        rw [look_put] at hy
        injection hy with hy
        rw [← hy]
      · rw [if_neg hc] at h; exact absurd h hc
    | some z =>
      rw [hl] at h hy
      dsimp only at h hy
      cases hz : z.prep with
      | true => rw [hz] at h; simp at h
      | false =>
        rw [hz] at h hy
        simp only [Bool.false_eq_true, if_false] at h hy
        by_cases hc : (lkTake s.locks n key a).2 = 0
        · rw [if_pos hc] at hy
          dsimp only at hy
          rw [hl] at hy
          injection hy with hy
          rw [← hy]; exact hz
        · rw [if_neg hc] at h; exact absurd h hc
theorem touch_same {s : KV} {n key : Int} {a : Bool} (h : (s.touch n key a).2 ≠ 0) : (s.touch n key a).1 = s := by
  unfold KV.touch at h ⊢
  split
  · rfl
  · rename_i h1
    rw [if_neg h1] at h
    cases hl : look s.works n with
    | none =>
      rw [hl] at h
      dsimp only at h ⊢
      split
      · rename_i hc; rw [if_pos hc] at h; exact absurd rfl h
      · rfl
    | some y =>
      rw [hl] at h
      dsimp only at h ⊢
      split
      · rfl
      · rename_i hp
        rw [if_neg hp] at h
        split
        · rename_i hc; rw [if_pos hc] at h; exact absurd rfl h
        · rfl
theorem touch_key {s : KV} {n key : Int} {a : Bool} (h : (s.touch n key a).2 = 0) : 0 ≤ key ∧ key < 16 := by
  unfold KV.touch at h
  by_cases h1 : n < 1 ∨ key < 0 ∨ 16 ≤ key
  · rw [if_pos h1] at h; simp at h
  · omega
theorem touch_len {r : Raw} {M : KM} {s : KV} (h : KvIs r M s) : s.locks.length ≤ 1000000 := h.len
abbrev Ch.agg (c : Ch) : Value := .agg #[.int .i64 c.kind, .int .i64 c.key, .int .u64 c.val]
abbrev Ch.box (c : Ch) : Obj := .cells #[.int .i64 c.kind, .int .i64 c.key, .int .u64 c.val] 94 (0, 0)
theorem change_close {w W : World} {F : Nat → Prop} {b q b5 : Nat} {r r' : Raw} {M' : KM} {s1 : KV} {n : Int} {c : Ch} {y : KW} {lv : Value} (hs : KvIs r' M' s1) (hr : r'.rest = r.rest) (hl : look M' n = some (q, y)) (hk : (M'.map (·.1)).Nodup) (hg : chGood (chPut y.list c))
    (h : St w F W [chRow lv (chPut y.list c), pt q (.cells #[lv, .bool false] 130 (0, 0)), pt b5 c.box, objsP kwP (dele M' n), pt b r'.obj, wmapP r'.wm (ptrs M'), lockP r'.lm s1.locks]) :
    Ret w F (KvR b r ({ s1 with works := put s1.works n ⟨chPut ((look s1.works n).getD ⟨[], false⟩).list c, false⟩ }, 0)) (.returned (.int .i64 0)) W := by
  have hw : look s1.works n = some y := by rw [← hs.works, look_conts, hl]; rfl
  have h1 := Sep.kw_shut (h.pick [1, 0, 3, 4, 5, 6] (by decide)).1
  have h2 : Sep [objsP kwP (put M' n (q, ⟨chPut y.list c, false⟩)), pt b r'.obj, wmapP r'.wm (ptrs M'), lockP r'.lm s1.locks] W (New w F) := Sep.obj_put (M := M') h1 hk
  have h3 : St w F W [objsP kwP (put M' n (q, ⟨chPut y.list c, false⟩)), pt b r'.obj, wmapP r'.wm (ptrs M'), lockP r'.lm s1.locks] := ⟨h2, h.2⟩
  have hp : ptrs (put M' n (q, ⟨chPut y.list c, false⟩)) = ptrs M' := by
    have : ptrs (put M' n (q, ⟨chPut y.list c, false⟩)) = put (ptrs M') n q := (put_map (fun y : Nat × KW => y.1) M' n (q, ⟨chPut y.list c, false⟩)).symm
    rw [this]
    exact put_id (by rw [ptrs_keys]; exact hk) (by rw [look_ptrs, hl]; rfl)
  refine (h3.pick [1, 2, 0, 3] (by decide)).ret ⟨r', put M' n (q, ⟨chPut y.list c, false⟩), rfl, ⟨hs.ok, hs.vals, hs.there, ?_, hs.len, ?_⟩, hr, ?_⟩
  · show _ = put s1.works n _
    rw [hw, ← hs.works]
    exact (put_map (fun y : Nat × KW => y.2) M' n (q, ⟨chPut y.list c, false⟩)).symm
  · intro p hp
    rcases put_mem hp with rfl | ⟨hp, _⟩
    · show chGood (chPut ((look s1.works n).getD ⟨[], false⟩).list c)
      rw [hw]
      exact hg
    · exact hs.good p hp
  · unfold kvL
    rw [hp]
    rfl
set_option maxRecDepth 100000 in
set_option maxHeartbeats 4000000 in
theorem kchange_calls (w : World) (F : Nat → Prop) (b : Nat) (r : Raw) (M : KM) (s : KV) (n : Int) (c : Ch) (hs : KvIs r M s) (h : Sep (kvL b r M s.locks) w F) (hn : I64 n) (hfit : (c.kind = 1 ∨ (c.kind = 2 ∧ c.val = 0)) ∧ U64 c.val) :
    Calls Try.prog 70 #[.pointer (some ⟨b, 0, none⟩), .int .i64 n, .agg #[.int .i64 c.kind, .int .i64 c.key, .int .u64 c.val]] w (Ret w F (KvR b r (s.change n c))) := by
  have HST0 : Aside0 (St w F (w.alloc (.cells #[.int .i64 c.kind, .int .i64 c.key, .int .u64 c.val] 94)) (kvL b r M s.locks ++ [pt w.heap.size c.box])) := ⟨((St.start h).alloc _).pick [1, 2, 3, 4, 0] (by decide)⟩
  have HT := Aside0.mk (HST0.out.call (fun F1 h1 => touch_calls _ F1 b r M s n c.key true hs h1 hn))
  obtain ⟨x0, x1, x2, _⟩ := heap3 (HST0.out.pick [4] (by decide)).heap
  have HX : Aside0 (s.change n c = if (s.touch n c.key true).2 = 0 then ({ (s.touch n c.key true).1 with works := put (s.touch n c.key true).1.works n ⟨chPut ((look (s.touch n c.key true).1.works n).getD ⟨[], false⟩).list c, false⟩ }, 0) else (s, (s.touch n c.key true).2)) := ⟨rfl⟩
  have HPREP := Aside0.mk (fun y => touch_prep (s := s) (n := n) (key := c.key) (a := true) (y := y))
  have HSAME : Aside0 ((s.touch n c.key true).2 ≠ 0 → (s.touch n c.key true).1 = s) := ⟨touch_same⟩
  have HKR : Aside0 ((s.touch n c.key true).2 = 0 → 0 ≤ c.key ∧ c.key < 16) := ⟨touch_key⟩
  have HFIT := Aside0.mk hfit
  have HBX : Aside0 (w.heap.size < (w.alloc (.cells #[.int .i64 c.kind, .int .i64 c.key, .int .u64 c.val] 94)).heap.size) := ⟨by simp⟩
  generalize s.touch n c.key true = t at HT HX HPREP HSAME HKR
  obtain ⟨s1, ec⟩ := t
  clear h hn hfit
  go_enter Try.func70, Try.ntmps70
  go_wp2_with fail
  refine HT.out.mono ?_
  rintro e W1 ⟨l', ⟨v, r', M', rfl, hs', hrest, rfl, hok, hno⟩, hst⟩
  have HST1 := Aside0.mk hst
  have HS1 := Aside0.mk hs'
  have HREST := Aside0.mk hrest
  generalize w.heap.size = b5 at HST1 ⊢
  clear hst hs' hrest x0 x1 x2 HT HST0 HBX
  by_cases hc : ec = 0
  · subst hc
    obtain ⟨q, y, rfl, hl⟩ := hok rfl
    clear hok hno
    have hyp := HPREP.out y rfl (by show look s1.works n = some y; rw [← HS1.out.works, look_conts, hl]; rfl)
    have HL := Aside0.mk hl
    have HGOOD : Aside0 (chGood y.list) := ⟨HS1.out.good (n, y) (look_mem (by rw [← HS1.out.works, look_conts, hl]; rfl))⟩
    have HG2 : Aside0 (chGood (chPut y.list c)) := ⟨chPut_good HGOOD.out ⟨by have h1 := HFIT.out.1; have h2 := HKR.out rfl; unfold chFit; simp; omega, HFIT.out.2⟩⟩
    have HKEY := Aside0.mk (wmap_keys (HST1.out.1.pick [1] (by decide)).one)
    obtain ⟨lv, hst2⟩ := (Sep.obj_take ((HST1.out.pick [2, 0, 1, 3, 4] (by decide)).1) HKEY.out hl).kw_open
    rw [hyp] at hst2
    obtain ⟨A, cp, rfl, hcap, hmax, hat⟩ := chRow_form (hst2.pick [1] (by decide)).one
    have HST2 : Aside0 (St w F W1 [pt q (.cells #[.slice A y.list.length cp, .bool false] 130 (0, 0)), chRow (.slice A y.list.length cp) y.list, pt b5 c.box, objsP kwP (dele M' n), pt b r'.obj, wmapP r'.wm (ptrs M'), lockP r'.lm s1.locks]) := ⟨hst2.pick [0, 1, 6, 2, 3, 4, 5] (by decide), HST1.out.2⟩
    have HAT := Aside0.mk (at_calls W1.drew q (.bool false) y.list A cp c.key (hat.below (below_drew (Below.refl _ _))) (by omega) HST2.out.drew.heap)
    obtain ⟨x0, x1, x2, _⟩ := heap3 (HST2.out.pick [2] (by decide)).heap
    go_wp2_with fail
    go_still_tail 5, (by kernel_rfl)
    go_wp2_with fail
    refine HAT.out.mono ?_
    rintro e W2 ⟨rfl, hb2⟩
    have HST3 := Aside0.mk (HST2.out.drew.below hb2)
    clear hb2 x0 x1 x2 HST2 HAT
    cases hix : chAt y.list c.key with
    | some i =>
      have hci : chIx y.list c.key = (i : Int) := by unfold chIx; rw [hix]
      rw [hci]
      have hil : i < y.list.length := by
        unfold chAt at hix
        exact (List.findIdx?_eq_some_iff_getElem.1 hix).1
      obtain ⟨A', cp', e1, _, _, hat⟩ := chRow_form (HST3.out.pick [1] (by decide)).1.one
      injection e1 with e1 _ e2
      subst e1 e2
      obtain ⟨ad, rfl, k0, k1, k2⟩ := hat i hil
      have hb3 : (ad.add (i * 3)).block = ad.block := by unfold Addr.add; split <;> rfl
      have HROW := (HST3.out.pick [1, 0, 2, 3, 4, 5, 6] (by decide))
      rcases HROW.1.row_open with ⟨e1, e2, _⟩ | ⟨g, off, cap, cur, e1, h1, h2, h3, h4, h5, hst⟩
      · omega
      injection e1 with e1 _ e2
      injection e1 with e1
      subst e1 e2
      have HG : Aside0 (St w F W2 [pt g (.cells cur 94 (0, 0)), pt q (.cells #[.slice (some ⟨g, off, none⟩) y.list.length cp, .bool false] 130 (0, 0)), pt b5 c.box, objsP kwP (dele M' n), pt b r'.obj, wmapP r'.wm (ptrs M'), lockP r'.lm s1.locks]) := ⟨hst, HROW.2⟩
      have HGG := HG.out.heap
      simp only [add_plain'] at k0 k1 k2
      have f0 : W2.frozen? ⟨g, off + i * 3, none⟩ = false := by simp [World.frozen?, HGG]
      have f1 : W2.frozen? ⟨g, off + i * 3 + 1, none⟩ = false := by simp [World.frozen?, HGG]
      have f2 : W2.frozen? ⟨g, off + i * 3 + 2, none⟩ = false := by simp [World.frozen?, HGG]
      obtain ⟨q0, _, _, _⟩ := heap2 (HST3.out.pick [0] (by decide)).heap
      obtain ⟨x0, x1, x2, _⟩ := heap3 (HST3.out.pick [2] (by decide)).heap
      obtain ⟨m, hm⟩ : ∃ m, m = y.list.length := ⟨_, rfl⟩
      rw [← hm] at q0
      have hil' : (i : Int) < (m : Int) := by omega
      have hml : m ≤ maxLen := by omega
      unfold maxLen at hml
      have HM := Aside0.mk hm
      clear hci HROW hat hst HGG hb3 hm
      go_wp2_with fail
      go_still_tail 8, (by kernel_rfl)
      go_wp2_with fail
      go_ret
      rw [HX.out, if_pos trivial]
      have hset := ((HG.out.set (off + i * 3) (.int .i64 c.kind)).set (off + i * 3 + 1) (.int .i64 c.key)).set (off + i * 3 + 2) (.int .u64 c.val)
      have hput : chPut y.list c = y.list.set i c := by unfold chPut; rw [hix]
      have hrow := Sep.row_shut (n := m) (size := 3) (off := off) (cap := cp) (vs := chCells (y.list.set i c)) hset.drew.1 (by rw [HM.out]; exact h1) h2 (by simpa using h3) (by
        simp only [Array.toList_setIfInBounds]
        rw [show off + i * 3 + 1 = off + (i * 3 + 1) by omega, show off + i * 3 + 2 = off + (i * 3 + 2) by omega, window_set, window_set, window_set, HM.out, h4, chCells_set _ _ _ hil]) (by rw [chCells_len, HM.out]; simp)
      refine change_close (b5 := b5) (lv := .slice (some ⟨g, off, none⟩) m cp) HS1.out HREST.out HL.out HKEY.out HG2.out ⟨?_, hset.drew.2⟩
      rw [hput]
      unfold chRow
      rw [List.length_set, ← HM.out]
      rw [← HM.out] at hrow
      exact hrow
    | none =>
      have hci : chIx y.list c.key = -1 := by unfold chIx; rw [hix]
      rw [hci]
      have hput : chPut y.list c = y.list ++ [c] := by unfold chPut; rw [hix]
      have HPUT := Aside0.mk hput
      have HLL : Aside0 (y.list.length ≤ 1000000) := ⟨Nat.le_trans (chGood_len HGOOD.out) (by omega)⟩
      obtain ⟨m, hm⟩ : ∃ m, m = y.list.length := ⟨_, rfl⟩
      have HST4 : Aside0 (St w F W2 [pt q (.cells #[.slice A m cp, .bool false] 130 (0, 0)), row 94 3 (.slice A m cp) m (chCells y.list), pt b5 c.box, objsP kwP (dele M' n), pt b r'.obj, wmapP r'.wm (ptrs M'), lockP r'.lm s1.locks]) := ⟨by rw [hm]; exact HST3.out⟩
      have HM := Aside0.mk hm
      have HROW : Aside0 (∀ W, Below W2.heap.size W2 W → OwnAt W 0 94 3 (.slice A m cp) m (chCells y.list)) := ⟨fun W hW => (HST4.out.below hW).1.tail.head.1⟩
      have HS := Aside0.mk (And.intro (heap2 HST4.out.heap) (heap3 (HST4.out.pick [2] (by decide)).heap))
      have hbA := below_alloc (Below.refl W2.heap.size W2) (.cells #[.int .i64 c.kind, .int .i64 c.key, .int .u64 c.val] 94)
      have HSA := Aside0.mk (And.intro (heap2 (HST4.out.below hbA).heap) (heap3 ((HST4.out.below hbA).pick [2] (by decide)).heap))
      obtain ⟨⟨q0, _, f0, _⟩, x0, x1, x2, _⟩ := HS.out
      obtain ⟨⟨q0a, _, f0a, _⟩, x0a, x1a, x2a, _⟩ := HSA.out
      have HLE : Aside0 (m ≤ 10000000) := ⟨by rw [hm]; have := HLL.out; omega⟩
      have HNEW : Aside0 (∀ u ∈ [Value.int .i64 c.kind, .int .i64 c.key, .int .u64 c.val], u.oneCell' = true) := ⟨by simp [Value.oneCell']⟩
      have HFIN : Aside0 (∀ Wm w4 v4, Below W2.heap.size W2 Wm → OwnAt w4 0 94 3 v4 (m + 1) (chCells y.list ++ [.int .i64 c.kind, .int .i64 c.key, .int .u64 c.val]) → Wm.grownBy w4 (Value.slice A m cp).ownBlock → (v4.ownBlock = (Value.slice A m cp).ownBlock ∨ ∃ b, v4.ownBlock = some b ∧ Wm.heap.size ≤ b) →
          (w4.cell? ⟨q, 0, none⟩ = some (.slice A m cp) ∧ w4.frozen? ⟨q, 0, none⟩ = false) ∧ St w F (w4.setCell ⟨q, 0, none⟩ v4) [chRow v4 (chPut y.list c), pt q (.cells #[v4, .bool false] 130 (0, 0)), pt b5 c.box, objsP kwP (dele M' n), pt b r'.obj, wmapP r'.wm (ptrs M'), lockP r'.lm s1.locks]) := ⟨fun Wm w4 v4 hB ho hg hn => by
        have h1 : St w F Wm (row 94 3 (.slice A m cp) m (chCells y.list) :: pt q (.cells #[.slice A m cp, .bool false] 130 (0, 0)) :: [pt b5 c.box, objsP kwP (dele M' n), pt b r'.obj, wmapP r'.wm (ptrs M'), lockP r'.lm s1.locks]) := (HST4.out.below hB).pick [1, 0, 2, 3, 4, 5, 6] (by decide)
        have h2 := h1.grown ho hg hn
        have h3 := h2.pick [1, 0, 2, 3, 4, 5, 6] (by decide)
        obtain ⟨c0, _, g0, _⟩ := heap2 h3.heap
        refine ⟨⟨c0, g0⟩, ?_⟩
        have h4 := (h3.set 0 v4).pick [1, 0, 2, 3, 4, 5, 6] (by decide)
        rw [HPUT.out]
        unfold chRow
        rw [chCells_app, List.length_append, ← HM.out]
        exact h4⟩
      clear hci hput hm HST3 hbA
      go_wp2_with fail
      go_region_law
        (refine step_app1 rfl (.tmp 42) (.tmp 44) 39 94 (.agg #[.int .i64 0, .int .i64 0, .int .u64 0]) 3 24 (by kernel_rfl) Try.underlying39 rfl (by decide) rfl (.slice A m cp) m (chCells y.list) [.int .i64 c.kind, .int .i64 c.key, .int .u64 c.val] W2.heap.size 94 rfl rfl (HROW.out _ (by first | exact below_alloc (Below.refl _ _) _ | exact below_drew (below_alloc (Below.refl _ _) _) | exact below_alloc (below_drew (Below.refl _ _)) _)) (by first | exact heap_alloc_new W2 _ | exact heap_alloc_new W2.drew _) rfl HNEW.out HLE.out (by decide) ?_; intro v4 w4 ho4 hg4 hn4; obtain ⟨A4, c4, rfl, _, _⟩ := row_form ho4; obtain ⟨⟨c0, g0⟩, hst4⟩ := HFIN.out _ _ _ (by first | exact below_alloc (Below.refl _ _) _ | exact below_drew (below_alloc (Below.refl _ _) _) | exact below_alloc (below_drew (Below.refl _ _)) _) ho4 hg4 hn4; have HST5 := Aside0.mk hst4; clear ho4 hg4 hn4 hst4)
      all_goals
        go_wp2_with fail
        go_ret
        rw [HX.out, if_pos trivial]
        first
          | exact change_close HS1.out HREST.out HL.out HKEY.out HG2.out HST5.out
          | exact change_close HS1.out HREST.out HL.out HKEY.out HG2.out HST5.out.drew
  · have hne : (ec != 0) = true := bne_iff_ne.2 hc
    have e1 := HSAME.out hc
    subst e1
    have HC := Aside0.mk hc
    have HNO := Aside0.mk (hno hc)
    clear hc hok hno
    go_wp2_with fail
    go_ret
    rw [HX.out, if_neg HC.out]
    exact (HST1.out.pick [0, 1, 2, 3] (by decide)).ret ⟨r', M', rfl, HS1.out, HREST.out, rfl⟩
theorem kput_calls (w : World) (F : Nat → Prop) (b : Nat) (r : Raw) (M : KM) (s : KV) (n key val : Int) (hs : KvIs r M s) (h : Sep (kvL b r M s.locks) w F) (hn : I64 n) (hv : U64 val) :
    Calls Try.prog 48 #[.pointer (some ⟨b, 0, none⟩), .int .i64 n, .int .i64 key, .int .u64 val] w (Ret w F (KvR b r (s.change n ⟨1, key, val⟩))) := by
  have HC := Aside0.mk (kchange_calls w F b r M s n ⟨1, key, val⟩ hs h hn ⟨.inl rfl, hv⟩)
  clear hs h hn hv
  go_enter Try.func48, Try.ntmps48
  go_wp2_with fail
  refine HC.out.mono ?_
  rintro e W1 ⟨l', ⟨r', M', rfl, h1, h2, h3⟩, h4, h5⟩
  have HE := Aside0.mk (And.intro h1 (And.intro h2 (And.intro h3 (And.intro h4 h5))))
  clear h1 h2 h3 h4 h5
  go_wp2_with fail
  go_ret
  obtain ⟨h1, h2, h3, h4, h5⟩ := HE.out
  exact ⟨l', ⟨r', M', rfl, h1, h2, h3⟩, h4, h5⟩
theorem kdel_calls (w : World) (F : Nat → Prop) (b : Nat) (r : Raw) (M : KM) (s : KV) (n key : Int) (hs : KvIs r M s) (h : Sep (kvL b r M s.locks) w F) (hn : I64 n) :
    Calls Try.prog 49 #[.pointer (some ⟨b, 0, none⟩), .int .i64 n, .int .i64 key] w (Ret w F (KvR b r (s.change n ⟨2, key, 0⟩))) := by
  have HC := Aside0.mk (kchange_calls w F b r M s n ⟨2, key, 0⟩ hs h hn ⟨.inr ⟨rfl, rfl⟩, by show U64 0; unfold U64; omega⟩)
  clear hs h hn
  go_enter Try.func49, Try.ntmps49
  go_wp2_with fail
  refine HC.out.mono ?_
  rintro e W1 ⟨l', ⟨r', M', rfl, h1, h2, h3⟩, h4, h5⟩
  have HE := Aside0.mk (And.intro h1 (And.intro h2 (And.intro h3 (And.intro h4 h5))))
  clear h1 h2 h3 h4 h5
  go_wp2_with fail
  go_ret
  obtain ⟨h1, h2, h3, h4, h5⟩ := HE.out
  exact ⟨l', ⟨r', M', rfl, h1, h2, h3⟩, h4, h5⟩
end Go.Proofs.Ytobljkhidgbeoaa.Oct
