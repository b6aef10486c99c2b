
import Derived.Test.YtobljkhidgbeoaaZ11
/- The store of keys: Commit. -/
namespace Go.Proofs.Ytobljkhidgbeoaa.Oct
open Go.RowKit Go.Proofs.YtobljkhidgbeoaaW.PrintWords Go.Proofs.Ytobljkhidgbeoaa.M
set_option linter.unusedVariables false
set_option linter.unusedSimpArgs false
def Raw.done (r : Raw) (l : List Ch) : Raw := { r with vals := (l.foldl chDo (r.vals, r.there)).1, there := (l.foldl chDo (r.vals, r.there)).2 }
theorem chDo_len (l : List Ch) : ∀ v : List Int × List Bool, (l.foldl chDo v).1.length = v.1.length ∧ (l.foldl chDo v).2.length = v.2.length := by
  induction l with
  | nil => intro v; exact ⟨rfl, rfl⟩
  | cons c l ih =>
    intro v
    have := ih (chDo v c)
    simp only [List.foldl_cons]
    rw [this.1, this.2]
    simp [chDo]
theorem Raw.done_ok {r : Raw} (h : r.ok) (l : List Ch) : (r.done l).ok := ⟨by rw [← h.1]; exact (chDo_len l _).1, by rw [← h.2]; exact (chDo_len l _).2⟩
theorem Raw.done_snoc (r : Raw) (l : List Ch) (k : Nat) (hk : k < l.length) : r.done (l.take (k + 1)) = { r.done (l.take k) with vals := (r.done (l.take k)).vals.set (l.getD k ch0).key.toNat (l.getD k ch0).val, there := (r.done (l.take k)).there.set (l.getD k ch0).key.toNat ((l.getD k ch0).kind == 1) } := by
  unfold Raw.done
  rw [List.take_succ_eq_append_getElem hk, List.foldl_append]
  simp [chDo, List.getD_eq_getElem?_getD, List.getElem?_eq_getElem hk]
set_option maxRecDepth 100000 in
set_option maxHeartbeats 4000000 in
theorem kcommit_old (w : World) (F : Nat → Prop) (b : Nat) (r : Raw) (M : KM) (s : KV) (n : Int) (hs : KvIs r M s) (h : Sep (kvL b r M s.locks) w F) (hn : I64 n) (h1 : ¬ n < 1) (q : Nat) (y : KW) (hl : look M n = some (q, y)) :
    Calls Try.prog 54 #[.pointer (some ⟨b, 0, none⟩), .int .i64 n] w (Ret w F (KvR b r (s.commit n))) := by
  have HS := Aside0.mk hs
  have HN := Aside0.mk hn
  have hw : look s.works n = some y := by rw [← hs.works, look_conts, hl]; rfl
  have HX : Aside0 (s.commit n = ((s.apply y.list).gone n, 0)) := ⟨by unfold KV.commit; rw [if_neg h1, hw]; rfl⟩
  have c32 := (Raw.facts hs.ok h.heap.1).1
  have hlk := w_look (h.pick [1] (by decide)).one hn
  rw [look_ptrs, hl] at hlk
  simp only [Option.map_some, Option.getD_some, evP] at hlk
  have hkeys := wmap_keys (h.pick [1] (by decide)).one
  obtain ⟨lv, hst2⟩ := (Sep.obj_take (((St.start h).pick [2, 0, 1, 3] (by decide)).1) hkeys hl).kw_open
  obtain ⟨A, cp, rfl, hcap, hmax, hat⟩ := chRow_form (hst2.pick [1] (by decide)).one
  have hgood : chGood y.list := hs.good (n, y) (look_mem hw)
  have HGOOD := Aside0.mk hgood
  have hlen := chGood_len hgood
  obtain ⟨m, hm⟩ : ∃ m, m = y.list.length := ⟨_, rfl⟩
  have HM := Aside0.mk hm
  have HST2 : Aside0 (St w F w [pt b (r.done []).obj, pt q (.cells #[.slice A m cp, .bool y.prep] 130 (0, 0)), row 94 3 (.slice A m cp) m (chCells y.list), wmapP r.wm (ptrs M), lockP r.lm s.locks, objsP kwP (dele M n)]) := ⟨⟨by rw [hm]; exact (hst2.pick [3, 0, 1, 4, 5, 2] (by decide)), Kp.refl _ _⟩⟩
  obtain ⟨x0, _, _, _⟩ := heap2 (HST2.out.pick [1] (by decide)).heap
  have hm16 : m ≤ 16 := by omega
  clear h hs hn hkeys hl hw hst2 hat hcap hmax hm hgood hlen
  go_enter Try.func54, Try.ntmps54
  go_wp2_with fail
  refine (kfit_good w b n (by omega)).mono ?_
  rintro e W1 ⟨rfl, hw⟩
  have hw := hw.symm
  subst hw
  go_wp2_with fail
  go_loopw [8, 29] (fun _ v29 wr => ∃ (k : Nat), k ≤ m ∧ v29 = .int .i64 k ∧ Aside0 (St w F wr [pt b (r.done (y.list.take k)).obj, pt q (.cells #[.slice A m cp, .bool y.prep] 130 (0, 0)), row 94 3 (.slice A m cp) m (chCells y.list), wmapP r.wm (ptrs M), lockP r.lm s.locks, objsP kwP (dele M n)])) (fun _ v _ => m - (intOf v).toNat)
  case atStart => exact ⟨0, by omega, rfl, HST2⟩
  case round =>
    obtain ⟨k, hk, rfl, HSTK⟩ := hrel
    by_cases hlt : k < m
    · have hlt' : (k : Int) < (m : Int) := by omega
      have hkl : k < y.list.length := by rw [← HM.out]; exact hlt
      obtain ⟨A', cp', e1, _, _, hat⟩ := chRow_form (W := wr) (F := New w F) (v := .slice A m cp) (l := y.list) (by have := (HSTK.out.pick [2] (by decide)).1.one; rw [HM.out] at this ⊢; exact this)
      injection e1 with e1
      subst e1
      obtain ⟨ad, rfl, k0, k1, k2⟩ := hat k hkl
      obtain ⟨c, hc⟩ : ∃ c, c = y.list.getD k ch0 := ⟨_, rfl⟩
      have HC := Aside0.mk hc
      have hkey := chFit_key (HGOOD.out.2 c (by rw [hc, List.getD_eq_getElem?_getD, List.getElem?_eq_getElem hkl]; exact List.getElem_mem hkl)).1
      rw [← hc] at k0 k1 k2
      obtain ⟨kk, hkk⟩ := Int.eq_ofNat_of_zero_le hkey.1
      rw [hkk] at k1
      have HKK := Aside0.mk hkk
      have hk16 : kk < 16 := by have := hkey.2.1; omega
      clear hc hat hkey hkk
      have HST3 : Aside0 (St w F (wr.alloc (.cells #[.int .i64 c.kind, .int .i64 kk, .int .u64 c.val] 94)) [pt b (r.done (y.list.take k)).obj, pt wr.heap.size (.cells #[.int .i64 c.kind, .int .i64 kk, .int .u64 c.val] 94 (0, 0)), pt q (.cells #[.slice (some ad) m cp, .bool y.prep] 130 (0, 0)), row 94 3 (.slice (some ad) m cp) m (chCells y.list), wmapP r.wm (ptrs M), lockP r.lm s.locks, objsP kwP (dele M n)]) := ⟨(HSTK.out.alloc _).pick [1, 0, 2, 3, 4, 5, 6] (by decide)⟩
      go_wp2_with fail
      generalize wr.heap.size = b8 at HST3 ⊢
      generalize wr.alloc _ = W3 at HST3 ⊢
      obtain ⟨x0, x1, x2, _⟩ := heap3 (HST3.out.pick [1] (by decide)).heap
      have hok := Raw.done_ok HS.out.ok (y.list.take k)
      obtain ⟨v0, g0⟩ := cell_in (HST3.out.heap) (Raw.val hok hk16)
      obtain ⟨v1, g1⟩ := cell_in (HST3.out.heap) (Raw.has hok hk16)
      have hk16' : (kk : Int) < 16 := by omega
      have hsa := HST3.out.set kk (.int .u64 c.val)
      have hsb := HST3.out.set (16 + kk) (.bool (c.kind == 1))
      rw [Raw.set_val hok hk16] at hsa
      rw [Raw.set_has hok hk16] at hsb
      obtain ⟨y0, y1, y2, _⟩ := heap3 (hsa.pick [1] (by decide)).heap
      obtain ⟨z0, z1, z2, _⟩ := heap3 (hsb.pick [1] (by decide)).heap
      obtain ⟨v2, g2⟩ := cell_in hsa.heap (Raw.has (r := { r.done (y.list.take k) with vals := (r.done (y.list.take k)).vals.set kk c.val }) ⟨by rw [List.length_set]; exact hok.1, hok.2⟩ hk16)
      obtain ⟨v3, g3⟩ := cell_in hsb.heap (Raw.val (r := { r.done (y.list.take k) with there := (r.done (y.list.take k)).there.set kk (c.kind == 1) }) ⟨hok.1, by rw [List.length_set]; exact hok.2⟩ hk16)
      have HFIN : Aside0 (St w F ((W3.setCell ⟨b, kk, none⟩ (.int .u64 c.val)).setCell ⟨b, 16 + kk, none⟩ (.bool (c.kind == 1))) [pt b (r.done (y.list.take (k + 1))).obj, pt q (.cells #[.slice (some ad) m cp, .bool y.prep] 130 (0, 0)), row 94 3 (.slice (some ad) m cp) m (chCells y.list), wmapP r.wm (ptrs M), lockP r.lm s.locks, objsP kwP (dele M n)]) := ⟨by
        have h2 := hsa.set (16 + kk) (.bool (c.kind == 1))
        rw [Raw.set_has (r := { r.done (y.list.take k) with vals := (r.done (y.list.take k)).vals.set kk c.val }) ⟨by rw [List.length_set]; exact hok.1, hok.2⟩ hk16] at h2
        have e : r.done (y.list.take (k + 1)) = { r.done (y.list.take k) with vals := (r.done (y.list.take k)).vals.set kk c.val, there := (r.done (y.list.take k)).there.set kk (c.kind == 1) } := by
          rw [Raw.done_snoc r y.list k hkl, ← HC.out, HKK.out]
          rfl
        rw [e]
        exact h2.pick [0, 2, 3, 4, 5, 6] (by decide)⟩
      clear k0 k1 k2 hok hsa hsb
      go_region
      all_goals
        go_wp2_with fail
        exact ⟨⟨k + 1, by omega, by go_num, ⟨HFIN.out.drew⟩⟩, by simp [intOf]; omega⟩
    · obtain rfl : k = m := by omega
      have hall : y.list.take k = y.list := by rw [HM.out]; exact List.take_length
      rw [hall] at HSTK
      have HG := Aside0.mk (St.call (l1 := [pt b (r.done y.list).obj, wmapP (r.done y.list).wm (ptrs M), lockP (r.done y.list).lm s.locks]) (l2 := [objsP kwP (dele M n), pt q (.cells #[.slice A k cp, .bool y.prep] 130 (0, 0)), row 94 3 (.slice A k cp) k (chCells y.list)]) (HSTK.out.pick [0, 3, 4, 5, 1, 2] (by decide)) (fun F1 h1 => kgone_calls wr F1 b (r.done y.list) (ptrs M) s.locks n (Raw.done_ok HS.out.ok _) HN.out HS.out.len h1))
      clear hall
      go_wp2_with fail
      refine HG.out.mono ?_
      rintro e W1 ⟨l', ⟨rfl, rfl⟩, hst⟩
      have HST4 := Aside0.mk hst
      clear hst
      go_wp2_with fail
      go_ret
      rw [HX.out]
      have e : dele (ptrs M) n = ptrs (dele M n) := dele_map (fun y : Nat × KW => y.1) M n
      have h4 : St w F W1 (kvL b (r.done y.list) (dele M n) (lkDrop s.locks n)) := by
        have := HST4.out.pick [0, 1, 3, 2] (by decide)
        rw [e] at this
        exact this
      have h5 := gone_is (r := r.done y.list) (M := M) (s := s.apply y.list) ⟨Raw.done_ok HS.out.ok _, by unfold Raw.done KV.apply; simp only [HS.out.vals, HS.out.there], by unfold Raw.done KV.apply; simp only [HS.out.vals, HS.out.there], HS.out.works, HS.out.len, HS.out.good⟩ n
      exact h4.ret ⟨r.done y.list, dele M n, rfl, h5, rfl, rfl⟩
theorem kcommit_calls (w : World) (F : Nat → Prop) (b : Nat) (r : Raw) (M : KM) (s : KV) (n : Int) (hs : KvIs r M s) (h : Sep (kvL b r M s.locks) w F) (hn : I64 n) :
    Calls Try.prog 54 #[.pointer (some ⟨b, 0, none⟩), .int .i64 n] w (Ret w F (KvR b r (s.commit n))) := by
  by_cases h1 : n < 1
  · have HST0 := Aside0.mk (St.start h)
    have HS := Aside0.mk hs
    have HX : Aside0 (s.commit n = (s, 1)) := ⟨by unfold KV.commit; rw [if_pos h1]⟩
    clear h hs
    go_enter Try.func54, Try.ntmps54
    go_wp2_with fail
    refine (kfit_bad w b n h1).mono ?_
    rintro e W1 ⟨rfl, hw⟩
    have hw := hw.symm
    subst hw
    go_wp2_with fail
    go_ret
    rw [HX.out]
    exact HST0.out.ret ⟨r, M, rfl, HS.out, rfl, rfl⟩
  · cases hl : look M n with
    | some qy => exact kcommit_old w F b r M s n hs h hn h1 qy.1 qy.2 hl
    | none =>
      have HST0 := Aside0.mk (St.start h)
      have HS := Aside0.mk hs
      have hw : look s.works n = none := by rw [← hs.works, look_conts, hl]; rfl
      have HX : Aside0 (s.commit n = (s.gone n, 0)) := ⟨by unfold KV.commit; rw [if_neg h1, hw]; rfl⟩
      have c32 := (Raw.facts hs.ok h.heap.1).1
      have hlk := w_look (h.pick [1] (by decide)).one hn
      rw [look_ptrs, hl] at hlk
      simp only [Option.map_none, Option.getD_none] at hlk
      have HGL : Aside0 (St w F w ([pt b r.obj, wmapP r.wm (ptrs M), lockP r.lm s.locks] ++ [objsP kwP M])) := ⟨HST0.out.pick [0, 1, 3, 2] (by decide)⟩
      have HG := Aside0.mk (HGL.out.call (fun F1 h1 => kgone_calls w F1 b r (ptrs M) s.locks n hs.ok hn hs.len h1))
      clear h hs hl hw
      go_enter Try.func54, Try.ntmps54
      go_wp2_with fail
      refine (kfit_good w b n (by omega)).mono ?_
      rintro e W1 ⟨rfl, hw⟩
      have hw := hw.symm
      subst hw
      go_wp2_with fail
      refine HG.out.mono ?_
      rintro e W1 ⟨l', ⟨rfl, rfl⟩, hst⟩
      have HST1 := Aside0.mk (gone_st hst)
      clear hst
      go_wp2_with fail
      go_ret
      rw [HX.out]
      exact HST1.out.ret ⟨r, dele M n, rfl, gone_is HS.out n, rfl, by simp [KV.gone]⟩
end Go.Proofs.Ytobljkhidgbeoaa.Oct
/- The store of keys: right. -/
namespace Go.Proofs.Ytobljkhidgbeoaa.Oct
open Go.RowKit Go.Proofs.YtobljkhidgbeoaaW.PrintWords Go.Proofs.Ytobljkhidgbeoaa.M
set_option linter.unusedVariables false
set_option linter.unusedSimpArgs false
/-- sixteen flags -/
def seenObj (s : List Bool) : Obj := .cells (s.map Value.bool).toArray 73 (0, 0)
theorem seen_cell {W : World} {b k : Nat} {s : List Bool} (h : W.heap[b]? = some (seenObj s)) (hs : s.length = 16) (hk : k < 16) : W.cell? ⟨b, k, none⟩ = some (.bool (s.getD k false)) ∧ W.frozen? ⟨b, k, none⟩ = false := by
  refine cell_in h ?_
  simp [List.getD_eq_getElem?_getD, hs, hk]
theorem seen_set (s : List Bool) (k : Nat) : (s.map Value.bool).toArray.setIfInBounds k (.bool true) = ((s.set k true).map Value.bool).toArray := by
  rw [List.setIfInBounds_toArray, List.map_set]
theorem rep_getD (j : Nat) (hj : j < 16) : (List.replicate 16 false).getD j false = false := by
  have h : ∀ j < 16, (List.replicate 16 false).getD j false = false := by decide
  exact h j hj
theorem kvRight_no {c : Ch} {l : List Ch} {s : List Int} (h : chFit c = false ∨ s.contains c.key = true) : kvRight (c :: l) s = false := by
  unfold kvRight
  rcases h with h | h
  · rw [h]; rfl
  · rw [h]; simp
theorem kvRight_yes {c : Ch} {l : List Ch} {s : List Int} (h : chFit c = true) (h2 : s.contains c.key = false) : kvRight (c :: l) s = kvRight l (c.key :: s) := by
  rw [kvRight, h, h2]; rfl
set_option maxRecDepth 100000 in
set_option maxHeartbeats 4000000 in
theorem kright_calls (w : World) (l : List Ch) (A : Option Addr) (cp : Nat) (h : ChAt w A l) (hll : l.length ≤ 10000000) :
    Calls Try.prog 59 #[.slice A l.length cp] w fun e w' => e = .returned (.bool (kvRight l [])) ∧ Below w.heap.size w w' := by
  have HL := Aside0.mk h
  have HST0 : Aside0 (St w (fun _ => False) (w.alloc (.cells #[.bool false, .bool false, .bool false, .bool false, .bool false, .bool false, .bool false, .bool false, .bool false, .bool false, .bool false, .bool false, .bool false, .bool false, .bool false, .bool false] 73)) [pt w.heap.size (seenObj (List.replicate 16 false))]) := ⟨(St.start (Sep.nil w _)).alloc _⟩
  obtain ⟨m, hm⟩ : ∃ m, m = l.length := ⟨_, rfl⟩
  rw [← hm]
  have HM := Aside0.mk hm
  have hm2 : m ≤ 10000000 := by omega
  clear h hll hm
  go_enter Try.func59, Try.ntmps59
  go_wp2_with fail
  generalize w.heap.size = bs at HST0 ⊢
  generalize w.alloc _ = W0 at HST0 ⊢
  go_loopw [5, 8] (fun _ v8 wr => ∃ (k : Nat) (s : List Int) (f : List Bool), k ≤ m ∧ v8 = .int .i64 k ∧ Aside0 (St w (fun _ => False) wr [pt bs (seenObj f)]) ∧ Aside0 (f.length = 16 ∧ (∀ j, j < 16 → f.getD j false = s.contains (j : Int)) ∧ kvRight l [] = kvRight (l.drop k) s)) (fun _ v _ => m - (intOf v).toNat)
  case atStart => exact ⟨0, [], List.replicate 16 false, by omega, rfl, HST0, ⟨by simp, fun j hj => (rep_getD j hj), rfl⟩⟩
  case round =>
    obtain ⟨k, s, f, hk, rfl, HST, HF⟩ := hrel
    have HB : Aside0 (Below w.heap.size w wr) := ⟨HST.out.2.below (fun _ h => h)⟩
    by_cases hlt : k < m
    · have hlt' : (k : Int) < (m : Int) := by omega
      have hkl : k < l.length := by rw [← HM.out]; exact hlt
      obtain ⟨ad, rfl, k0, k1, k2⟩ := (HL.out.below HB.out) k hkl
      obtain ⟨c, hc⟩ : ∃ c, c = l.getD k ch0 := ⟨_, rfl⟩
      rw [← hc] at k0 k1 k2
      have HD : Aside0 (l.drop k = c :: l.drop (k + 1)) := ⟨by rw [List.drop_eq_getElem_cons hkl, hc, List.getD_eq_getElem?_getD, List.getElem?_eq_getElem hkl]; rfl⟩
      have HST1 : Aside0 (St w (fun _ => False) (wr.alloc (.cells #[.int .i64 c.kind, .int .i64 c.key, .int .u64 c.val] 94)) [pt bs (seenObj f), pt wr.heap.size c.box]) := ⟨(HST.out.alloc _).pick [1, 0] (by decide)⟩
      have HB1 : Aside0 (Below w.heap.size w (wr.alloc (.cells #[.int .i64 c.kind, .int .i64 c.key, .int .u64 c.val] 94))) := ⟨HST1.out.2.below (fun _ h => h)⟩
      clear hc
      by_cases hfit : chFit c = true
      · obtain ⟨hk0, hk16, hkind⟩ := chFit_key hfit
        have HFIT := Aside0.mk hfit
        obtain ⟨kk, hkk⟩ := Int.eq_ofNat_of_zero_le hk0
        have hkk16 : kk < 16 := by omega
        have hg1 : ¬ ((kk : Int) < 0) := by omega
        have hg2 : ¬ (16 ≤ (kk : Int)) := by omega
        have hg3 : (kk : Int) < 16 := by omega
        rw [hkk] at k1
        have HKK := Aside0.mk hkk
        obtain ⟨v0, g0⟩ := seen_cell HST1.out.heap HF.out.1 hkk16
        have hseen : f.getD kk false = s.contains c.key := by rw [HF.out.2.1 kk hkk16, hkk]
        have HST2 : Aside0 (St w (fun _ => False) ((wr.alloc (.cells #[.int .i64 c.kind, .int .i64 kk, .int .u64 c.val] 94)).setCell ⟨bs, kk, none⟩ (.bool true)) [pt bs (seenObj (f.set kk true))]) := ⟨by
          have := HST1.out.set kk (.bool true)
          rw [seen_set, hkk] at this
          exact this.pick [0] (by decide)⟩
        rw [hkk] at HB1 v0 g0
        have hkd : (c.kind = 1) ∨ (c.kind ≠ 1 ∧ c.kind = 2 ∧ c.val = 0) := by
          unfold chFit at hfit
          simp at hfit
          omega
        have HNEXT : Aside0 (s.contains c.key = false → (f.set kk true).length = 16 ∧ (∀ j, j < 16 → (f.set kk true).getD j false = (c.key :: s).contains (j : Int)) ∧ kvRight l [] = kvRight (l.drop (k + 1)) (c.key :: s)) := ⟨fun hc => ⟨by rw [List.length_set]; exact HF.out.1, fun j hj => by
          rw [List.contains_cons, List.getD_eq_getElem?_getD, List.getElem?_set]
          by_cases hjk : kk = j
          · subst hjk
            rw [if_pos rfl, if_pos (by rw [HF.out.1]; exact hj), HKK.out]
            simp
          · rw [if_neg hjk, ← List.getD_eq_getElem?_getD, HF.out.2.1 j hj]
            have : ((j : Int) == c.key) = false := by rw [beq_eq_false_iff_ne, HKK.out]; omega
            rw [this]; rfl, by rw [HF.out.2.2, HD.out, kvRight_yes HFIT.out hc]⟩⟩
        cases hsc : s.contains c.key with
        | true =>
          rw [hseen, hsc] at v0
          have HX : Aside0 (kvRight l [] = false) := ⟨by rw [HF.out.2.2, HD.out]; exact kvRight_no (.inr hsc)⟩
          clear hseen hsc hfit hkk hk0 hk16 hkind
          rcases hkd with e1 | ⟨e1, e2, e3⟩
          · have b1 : (c.kind != 1) = false := by rw [e1]; rfl
            clear e1
            go_wp2_with fail
            go_ret
            rw [HX.out]
            exact ⟨rfl, HB1.out⟩
          · have b1 : (c.kind != 1) = true := bne_iff_ne.2 e1
            have b2 : (c.kind != 2) = false := by rw [e2]; rfl
            have b3 : (c.val != 0) = false := by rw [e3]; rfl
            clear e1 e2 e3
            go_wp2_with fail
            go_ret
            rw [HX.out]
            exact ⟨rfl, HB1.out⟩
        | false =>
          rw [hseen, hsc] at v0
          have HN := Aside0.mk (HNEXT.out hsc)
          clear hseen hsc hfit hkk hk0 hk16 hkind
          rcases hkd with e1 | ⟨e1, e2, e3⟩
          · have b1 : (c.kind != 1) = false := by rw [e1]; rfl
            clear e1
            go_wp2_with fail
            exact ⟨⟨k + 1, c.key :: s, f.set kk true, by omega, by go_num, HST2, HN⟩, by simp [intOf]; omega⟩
          · have b1 : (c.kind != 1) = true := bne_iff_ne.2 e1
            have b2 : (c.kind != 2) = false := by rw [e2]; rfl
            have b3 : (c.val != 0) = false := by rw [e3]; rfl
            clear e1 e2 e3
            go_wp2_with fail
            exact ⟨⟨k + 1, c.key :: s, f.set kk true, by omega, by go_num, HST2, HN⟩, by simp [intOf]; omega⟩
      · have HX : Aside0 (kvRight l [] = false) := ⟨by rw [HF.out.2.2, HD.out]; exact kvRight_no (.inl (by simpa using hfit))⟩
        unfold chFit at hfit
        simp only [Bool.and_eq_true, Bool.or_eq_true, beq_iff_eq, decide_eq_true_eq] at hfit
        by_cases e1 : c.kind = 1
        · have b1 : (c.kind != 1) = false := by rw [e1]; rfl
          by_cases h0 : c.key < 0
          · clear hfit e1
            go_wp2_with fail
            go_ret
            rw [HX.out]
            exact ⟨rfl, HB1.out⟩
          · have h16 : 16 ≤ c.key := by omega
            clear hfit e1
            go_wp2_with fail
            go_ret
            rw [HX.out]
            exact ⟨rfl, HB1.out⟩
        · have b1 : (c.kind != 1) = true := bne_iff_ne.2 e1
          by_cases e2 : c.kind = 2
          · have b2 : (c.kind != 2) = false := by rw [e2]; rfl
            by_cases e3 : c.val = 0
            · have b3 : (c.val != 0) = false := by rw [e3]; rfl
              by_cases h0 : c.key < 0
              · clear hfit e1 e2 e3
                go_wp2_with fail
                go_ret
                rw [HX.out]
                exact ⟨rfl, HB1.out⟩
              · have h16 : 16 ≤ c.key := by omega
                clear hfit e1 e2 e3
                go_wp2_with fail
                go_ret
                rw [HX.out]
                exact ⟨rfl, HB1.out⟩
            · have b3 : (c.val != 0) = true := bne_iff_ne.2 e3
              clear hfit e1 e2 e3
              go_wp2_with fail
              go_ret
              rw [HX.out]
              exact ⟨rfl, HB1.out⟩
          · have b2 : (c.kind != 2) = true := bne_iff_ne.2 e2
            clear hfit e1 e2
            go_wp2_with fail
            go_ret
            rw [HX.out]
            exact ⟨rfl, HB1.out⟩
    · obtain rfl : k = m := by omega
      have HX : Aside0 (kvRight l [] = true) := ⟨by rw [HF.out.2.2, List.drop_eq_nil_of_le (by rw [HM.out]; exact Nat.le_refl _)]; rfl⟩
      go_wp2_with fail
      go_ret
      rw [HX.out]
      exact ⟨rfl, HB.out⟩
end Go.Proofs.Ytobljkhidgbeoaa.Oct
