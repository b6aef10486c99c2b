
import Derived.Test.YtobljkhidgbeoaaZ10
/- The store of keys: Clone of changes; Prepare, Backout. -/
namespace Go.Proofs.Ytobljkhidgbeoaa.Oct
open Go.RowKit Go.Proofs.YtobljkhidgbeoaaW.PrintWords Go.Proofs.Ytobljkhidgbeoaa.M
set_option linter.unusedVariables false
set_option linter.unusedSimpArgs false
theorem chAt_news {W : World} {A : Option Addr} {l : List Ch} (h : ChAt W A l) (hl : 0 < l.length) : ∃ a, A = some a ∧ ∀ j u, (chCells l)[j]? = some u → W.cell? (a.add j) = some u := by
  obtain ⟨ad, e, _⟩ := h 0 hl
  refine ⟨ad, e, fun j u hu => ?_⟩
  have hj := (List.getElem?_eq_some_iff.1 hu).1
  rw [chCells_len] at hj
  obtain ⟨ad', e', k0, k1, k2⟩ := h (j / 3) (by omega)
  rw [e] at e'
  injection e' with e'
  subst e'
  obtain ⟨g0, g1, g2⟩ := chCells_get l (j / 3) (by omega)
  have hm : j % 3 = 0 ∨ j % 3 = 1 ∨ j % 3 = 2 := by omega
  rcases hm with hm | hm | hm
  · have ej : j = j / 3 * 3 := by omega
    rw [ej] at hu ⊢
    rw [g0] at hu; injection hu with hu; rw [← hu]; exact k0
  · have ej : j = j / 3 * 3 + 1 := by omega
    rw [ej] at hu ⊢
    rw [g1] at hu; injection hu with hu; rw [← hu, ← add_more]; exact k1
  · have ej : j = j / 3 * 3 + 2 := by omega
    rw [ej] at hu ⊢
    rw [g2] at hu; injection hu with hu; rw [← hu, ← add_more]; exact k2
theorem chCells_one (l : List Ch) : ∀ u ∈ chCells l, u.oneCell' = true := fun u hu => by
  obtain ⟨c, _, hc⟩ := List.mem_flatMap.1 hu
  simp only [Ch.cs, List.mem_cons, List.not_mem_nil, or_false] at hc
  rcases hc with rfl | rfl | rfl <;> rfl
theorem info_ch : (Try.prog.info? 94).map (fun i => (i.zero, i.size, i.bytes)) = some (some (.agg #[.int .i64 0, .int .i64 0, .int .u64 0]), 3, 24) := by kernel_rfl
/-- what Clone hands out -/
def NewCh (W : World) (v : Value) (l : List Ch) (W' : World) : Prop := OwnAt W' 0 94 3 v l.length (chCells l) ∧ (∀ k, v.ownBlock = some k → W.heap.size ≤ k) ∧ Below W.heap.size W W'
set_option maxHeartbeats 1000000 in
theorem chClone_calls (w : World) (l : List Ch) (A : Option Addr) (c : Nat) (h : ChAt w A l) (hll : l.length ≤ 10000000) :
    Calls Try.prog 63 #[.slice A l.length c] w fun e w' => ∃ v, e = .returned v ∧ NewCh w v l w' := by
  have HL := Aside0.mk h
  cases A with
  | none =>
    obtain rfl : l = [] := by
      cases l with
      | nil => rfl
      | cons x l => obtain ⟨ad, e, _⟩ := h 0 (by simp); cases e
    have hnil := Lib.run_eql_slice_nil (P := Try.prog) w 39 94 none 0 c 0 0 Try.underlying39
    clear h
    go_enter Try.func63, Try.ntmps63
    go_wp2
    go_ret
    exact ⟨_, rfl, OwnAt.nil _ _ _ _, (fun k e => by cases e), Below.refl _ _⟩
  | some ad =>
    have hnil := Lib.run_eql_slice_nil (P := Try.prog) w 39 94 (some ad) l.length c 0 0 Try.underlying39
    have hB := below_alloc (Below.refl w.heap.size w) (.cells #[] 94)
    obtain ⟨i0, hi0, hz0, hz1, hz2⟩ := info_parts info_ch
    have HNEWS := Aside0.mk (fun hp => chAt_news (HL.out.below hB) hp)
    have HOWN : Aside0 (OwnAt (w.alloc (.cells #[] 94)) w.heap.size 94 3 (.slice (some ⟨w.heap.size, 0, none⟩) 0 0) 0 []) := ⟨⟨rfl, .inr ⟨w.heap.size, 0, 0, #[], rfl, Nat.le_refl _, heap_alloc_new _ _, Nat.le_refl _, by simp [maxLen], by simp, rfl⟩⟩⟩
    have HB := Aside0.mk hB
    have HLE := Aside0.mk hll
    clear h hB hll
    go_enter Try.func63, Try.ntmps63
    go_wp2_with ((with_reducible refine gate_dst (N := 7) rfl ?_); at_builtin; refine wpList_append_at _ rfl (.tmp 5) (.tmp 6) 39 rfl w.heap.size 94 i0 (.agg #[.int .i64 0, .int .i64 0, .int .u64 0]) 3 24 Try.underlying39 hi0 hz0 hz1 hz2 rfl (by decide) _ 0 [] rfl HOWN.out (some ad) l.length c (chCells l) rfl (chCells_len l) HNEWS.out (chCells_one l) ?aL ?aM HB.out.size ?_; (case aL => simp only [maxLen]; have := HLE.out; omega); (case aM => have := HLE.out; omega); intro v1 w1 ho hg hn; rw [Nat.zero_add, List.nil_append] at ho; have HO := Aside0.mk ho; have HG := Aside0.mk hg; have HN := Aside0.mk hn; clear ho hg hn)
    go_ret
    refine ⟨_, rfl, HO.out.lower (Nat.zero_le _), (fun k e => (HO.out.block e).1), ?_⟩
    exact HB.out.grown HG.out HB.out.size (fun k e => by have e : some w.heap.size = some k := e; injection e with e; omega)
/-- what prepare tells -/
def PrepR (b : Nat) (r : Raw) (x : KV × List Ch × Int) (e : Ending) (l' : List Part) : Prop := ∃ v r' M', e = .returned (.tuple #[v, .int .i64 x.2.2]) ∧ KvIs r' M' x.1 ∧ r'.rest = r.rest ∧ l' = chRow v x.2.1 :: kvL b r' M' x.1.locks
theorem lkDrop_len (L : Locks) (n : Int) (h : L.length ≤ 1000000) : (lkDrop L n).length ≤ 1000000 := Nat.le_trans (List.length_filter_le _ _) h
theorem gone_is {r : Raw} {M : KM} {s : KV} (h : KvIs r M s) (n : Int) : KvIs r (dele M n) (s.gone n) :=
  ⟨h.ok, h.vals, h.there, by show conts (dele M n) = dele s.works n; rw [← h.works]; exact (dele_map (fun y : Nat × KW => y.2) M n).symm, lkDrop_len _ _ h.len, fun p hp => h.good p (List.mem_filter.1 hp).1⟩
theorem gone_st {w W : World} {F : Nat → Prop} {b : Nat} {r : Raw} {M : KM} {L : Locks} {l : List Part} {n : Int} (h : St w F W ([pt b r.obj, wmapP r.wm (dele (ptrs M) n), lockP r.lm L] ++ (objsP kwP M :: l))) : St w F W (kvL b r (dele M n) L ++ l) := by
  have h1 : St w F W (objsP kwP M :: ([pt b r.obj, wmapP r.wm (dele (ptrs M) n), lockP r.lm L] ++ l)) := h.perm List.perm_middle
  have h2 : St w F W (objsP kwP (dele M n) :: ([pt b r.obj, wmapP r.wm (dele (ptrs M) n), lockP r.lm L] ++ l)) := ⟨h1.1.obj_del n, h1.2⟩
  have e : dele (ptrs M) n = ptrs (dele M n) := dele_map (fun y : Nat × KW => y.1) M n
  rw [e] at h2
  refine h2.perm ?_
  show (objsP kwP (dele M n) :: pt b r.obj :: wmapP r.wm (ptrs (dele M n)) :: lockP r.lm L :: l).Perm (pt b r.obj :: wmapP r.wm (ptrs (dele M n)) :: objsP kwP (dele M n) :: lockP r.lm L :: l)
  exact (List.Perm.swap _ _ _).trans ((List.Perm.swap _ _ _).cons _)
set_option maxHeartbeats 2000000 in
theorem kprepare_calls (w : World) (F : Nat → Prop) (b : Nat) (r : Raw) (M : KM) (s : KV) (n : Int) (hs : KvIs r M s) (h : Sep (kvL b r M s.locks) w F) (hn : I64 n) :
    Calls Try.prog 52 #[.pointer (some ⟨b, 0, none⟩), .int .i64 n] w (Ret w F (PrepR b r (s.prepare n))) := by
  have HST0 := Aside0.mk (St.start h)
  have HS := Aside0.mk hs
  have hnil : ∀ W, (chRow (.slice none 0 0) []).P W (fun _ => False) := fun W => row_nil W _ _ _
  have HNIL := Aside0.mk hnil
  by_cases h1 : n < 1
  · have HX : Aside0 (s.prepare n = (s, [], 1)) := ⟨by unfold KV.prepare; rw [if_pos h1]⟩
    clear h hs hnil
    go_enter Try.func52, Try.ntmps52
    go_wp2_with fail
    refine (kfit_bad w b n h1).mono ?_
    rintro e W1 ⟨rfl, hw⟩
    have hw := hw.symm
    subst hw
    go_wp2_with fail
    go_ret2
    rw [HX.out]
    exact (HST0.out.free (HNIL.out _)).ret ⟨_, r, M, rfl, HS.out, rfl, rfl⟩
  · have c32 := (Raw.facts hs.ok h.heap.1).1
    have hlk := w_look (h.pick [1] (by decide)).one hn
    rw [look_ptrs] at hlk
    have hkeys := wmap_keys (h.pick [1] (by decide)).one
    have HGL : Aside0 (St w F w ([pt b r.obj, wmapP r.wm (ptrs M), lockP r.lm s.locks] ++ [objsP kwP M])) := ⟨HST0.out.pick [0, 1, 3, 2] (by decide)⟩
    have HG := Aside0.mk (HGL.out.call (fun F1 h1 => kgone_calls w F1 b r (ptrs M) s.locks n hs.ok hn hs.len h1))
    have hw : look s.works n = (look M n).map (·.2) := by rw [← hs.works, look_conts]
    cases hl : look M n with
    | none =>
      have HX : Aside0 (s.prepare n = (s.gone n, [], 0)) := ⟨by unfold KV.prepare; rw [if_neg h1, hw, hl]; rfl⟩
      rw [hl] at hlk
      simp only [Option.map_none, Option.getD_none] at hlk
      clear h hs hnil hkeys hw hl
      go_enter Try.func52, Try.ntmps52
      go_wp2_with fail
      refine (kfit_good w b n (by omega)).mono ?_
      rintro e W1 ⟨rfl, hw⟩
      have hw := hw.symm
      subst hw
      go_wp2_with fail
      refine HG.out.mono ?_
      rintro e W1 ⟨l', ⟨rfl, rfl⟩, hst⟩
      have HST1 := Aside0.mk (gone_st hst)
      clear hst
      go_wp2_with fail
      go_ret2
      rw [HX.out]
      exact (HST1.out.free (HNIL.out _)).ret ⟨_, r, dele M n, rfl, gone_is HS.out n, rfl, by simp [KV.gone]⟩
    | some qy =>
      obtain ⟨q, y⟩ := qy
      rw [hl] at hlk
      simp only [Option.map_some, Option.getD_some, evP] at hlk
      have HKEY := Aside0.mk hkeys
      have HL := Aside0.mk hl
      obtain ⟨lv, hst2⟩ := (Sep.obj_take ((HST0.out.pick [2, 0, 1, 3] (by decide)).1) hkeys hl).kw_open
      obtain ⟨A, cp, rfl, hcap, hmax, hat⟩ := chRow_form (hst2.pick [1] (by decide)).one
      have hgood : chGood y.list := hs.good (n, y) (look_mem (by rw [hw, hl]; rfl))
      have HLEN := Aside0.mk (chGood_len hgood)
      obtain ⟨m, hm⟩ : ∃ m, m = y.list.length := ⟨_, rfl⟩
      have HM := Aside0.mk hm
      have HST2 : Aside0 (St w F w [pt q (.cells #[.slice A m cp, .bool y.prep] 130 (0, 0)), row 94 3 (.slice A m cp) m (chCells y.list), objsP kwP (dele M n), pt b r.obj, wmapP r.wm (ptrs M), lockP r.lm s.locks]) := ⟨by rw [hm]; exact hst2, HST0.out.2⟩
      obtain ⟨x0, x1, _, f1⟩ := heap2 HST2.out.heap
      cases hp : y.prep with
      | true =>
        have HX : Aside0 (s.prepare n = (s, [], 7)) := ⟨by unfold KV.prepare; rw [if_neg h1, hw, hl]; simp [hp]⟩
        rw [hp] at x1
        clear h hs hnil hkeys hw hl hst2 hat hgood hcap hmax hp hm
        go_enter Try.func52, Try.ntmps52
        go_wp2_with fail
        refine (kfit_good w b n (by omega)).mono ?_
        rintro e W1 ⟨rfl, hw⟩
        have hw := hw.symm
        subst hw
        go_wp2_with fail
        go_ret2
        rw [HX.out]
        exact (HST0.out.free (HNIL.out _)).ret ⟨_, r, M, rfl, HS.out, rfl, rfl⟩
      | false =>
        rw [hp] at x1
        by_cases he : y.list = []
        · have HX : Aside0 (s.prepare n = (s.gone n, [], 0)) := ⟨by unfold KV.prepare; rw [if_neg h1, hw, hl]; simp [hp, he]⟩
          have hm0 : m = 0 := by rw [hm, he]; rfl
          subst hm0
          clear h hs hnil hkeys hw hl hst2 hat hgood hcap hmax hp hm he
          go_enter Try.func52, Try.ntmps52
          go_wp2_with fail
          refine (kfit_good w b n (by omega)).mono ?_
          rintro e W1 ⟨rfl, hw⟩
          have hw := hw.symm
          subst hw
          go_wp2_with fail
          refine HG.out.mono ?_
          rintro e W1 ⟨l', ⟨rfl, rfl⟩, hst⟩
          have HST1 := Aside0.mk (gone_st hst)
          clear hst
          go_wp2_with fail
          go_ret2
          rw [HX.out]
          exact (HST1.out.free (HNIL.out _)).ret ⟨_, r, dele M n, rfl, gone_is HS.out n, rfl, by simp [KV.gone]⟩
        · have HX : Aside0 (s.prepare n = ({ s with works := put s.works n ⟨y.list, true⟩ }, y.list, 0)) := ⟨by unfold KV.prepare; rw [if_neg h1, hw, hl]; simp [hp, he]⟩
          have hm0 : 0 < m := by rw [hm]; exact List.length_pos_iff.2 he
          have hm1 : ((m : Int) == 0) = false := by rw [beq_eq_false_iff_ne]; omega
          have HG1 := Aside0.mk hgood
          have HST3 := Aside0.mk (HST2.out.set 1 (.bool true))
          have hatx : ChAt (w.setCell ⟨q, 1, none⟩ (.bool true)) A y.list := by
            obtain ⟨A', c', e1, _, _, h'⟩ := chRow_form (v := .slice A m cp) (l := y.list) (W := w.setCell ⟨q, 1, none⟩ (.bool true)) (F := New w F) (by have := (HST3.out.pick [1] (by decide)).1.one; rw [hm] at this ⊢; exact this)
            injection e1 with e1
            rw [e1]
            exact h'
          have HC := Aside0.mk (chClone_calls (w.setCell ⟨q, 1, none⟩ (.bool true)) y.list A cp hatx (by have := HLEN.out; omega))
          rw [← hm] at HC
          clear h hs hnil hkeys hw hl hst2 hat hgood hcap hmax hp hm he hatx HG HGL
          go_enter Try.func52, Try.ntmps52
          go_wp2_with fail
          refine (kfit_good w b n (by omega)).mono ?_
          rintro e W1 ⟨rfl, hw⟩
          have hw := hw.symm
          subst hw
          go_wp2_with fail
          refine HC.out.mono ?_
          rintro e W2 ⟨v2, rfl, ho2, hn2, hb2⟩
          obtain ⟨A2, c2, rfl, _, _⟩ := row_form ho2
          have HST4 := Aside0.mk (HST3.out.new_row hb2 ho2 hn2)
          clear ho2 hn2 hb2
          go_wp2_with fail
          go_ret2
          rw [HX.out]
          have h4 : Sep (kwP q ⟨y.list, true⟩ :: [objsP kwP (dele M n), pt b r.obj, wmapP r.wm (ptrs M), lockP r.lm s.locks, chRow (.slice A2 y.list.length c2) y.list]) W2 (New w F) := by
            have := (HST4.out.pick [1, 2, 3, 4, 5, 6, 0] (by decide)).1
            rw [HM.out] at this
            exact Sep.kw_shut this
          have h5 : St w F W2 [objsP kwP (put M n (q, ⟨y.list, true⟩)), pt b r.obj, wmapP r.wm (ptrs M), lockP r.lm s.locks, chRow (.slice A2 y.list.length c2) y.list] := ⟨Sep.obj_put (M := M) h4 HKEY.out, HST4.out.2⟩
          have hpt : ptrs (put M n (q, ⟨y.list, true⟩)) = ptrs M := by
            have : ptrs (put M n (q, ⟨y.list, true⟩)) = put (ptrs M) n q := (put_map (fun y : Nat × KW => y.1) M n (q, ⟨y.list, true⟩)).symm
            rw [this]
            exact put_id (by rw [ptrs_keys]; exact HKEY.out) (by rw [look_ptrs, HL.out]; rfl)
          refine (h5.pick [4, 1, 2, 0, 3] (by decide)).ret ⟨_, r, put M n (q, ⟨y.list, true⟩), rfl, ⟨HS.out.ok, HS.out.vals, HS.out.there, ?_, HS.out.len, ?_⟩, rfl, ?_⟩
          · show conts (put M n (q, ⟨y.list, true⟩)) = put s.works n ⟨y.list, true⟩
            rw [← HS.out.works]
            exact (put_map (fun y : Nat × KW => y.2) M n (q, ⟨y.list, true⟩)).symm
          · intro p hp
            rcases put_mem hp with rfl | ⟨hp, _⟩
            · exact HG1.out
            · exact HS.out.good p hp
          · unfold kvL
            rw [hpt]
            rfl
theorem kbackout_calls (w : World) (F : Nat → Prop) (b : Nat) (r : Raw) (M : KM) (s : KV) (n : Int) (hs : KvIs r M s) (h : Sep (kvL b r M s.locks) w F) (hn : I64 n) :
    Calls Try.prog 42 #[.pointer (some ⟨b, 0, none⟩), .int .i64 n] w (Ret w F (KvR b r (s.backout n))) := by
  have HST0 := Aside0.mk (St.start h)
  have HS := Aside0.mk hs
  by_cases h1 : n < 1
  · have HX : Aside0 (s.backout n = (s, 1)) := ⟨by unfold KV.backout; rw [if_pos h1]⟩
    clear h hs
    go_enter Try.func42, Try.ntmps42
    go_wp2_with fail
    refine (kfit_bad w b n h1).mono ?_
    rintro e W1 ⟨rfl, hw⟩
    have hw := hw.symm
    subst hw
    go_wp2_with fail
    go_ret
    rw [HX.out]
    exact HST0.out.ret ⟨r, M, rfl, HS.out, rfl, rfl⟩
  · have HX : Aside0 (s.backout n = (s.gone n, 0)) := ⟨by unfold KV.backout; rw [if_neg h1]⟩
    have HGL : Aside0 (St w F w ([pt b r.obj, wmapP r.wm (ptrs M), lockP r.lm s.locks] ++ [objsP kwP M])) := ⟨HST0.out.pick [0, 1, 3, 2] (by decide)⟩
    have HG := Aside0.mk (HGL.out.call (fun F1 h1 => kgone_calls w F1 b r (ptrs M) s.locks n hs.ok hn hs.len h1))
    clear h hs
    go_enter Try.func42, Try.ntmps42
    go_wp2_with fail
    refine (kfit_good w b n (by omega)).mono ?_
    rintro e W1 ⟨rfl, hw⟩
    have hw := hw.symm
    subst hw
    go_wp2_with fail
    refine HG.out.mono ?_
    rintro e W1 ⟨l', ⟨rfl, rfl⟩, hst⟩
    have HST1 := Aside0.mk (gone_st hst)
    clear hst
    go_wp2_with fail
    go_ret
    rw [HX.out]
    exact HST1.out.ret ⟨r, dele M n, rfl, gone_is HS.out n, rfl, by simp [KV.gone]⟩
end Go.Proofs.Ytobljkhidgbeoaa.Oct
