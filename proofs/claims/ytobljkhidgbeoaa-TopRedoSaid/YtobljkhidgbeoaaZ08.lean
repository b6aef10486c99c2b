
import Derived.Test.YtobljkhidgbeoaaZ07
/- The store of keys: set, gone, fit, touch. -/
namespace Go.Proofs.Ytobljkhidgbeoaa.Oct
open Go.RowKit Go.Proofs.YtobljkhidgbeoaaW.PrintWords Go.Proofs.Ytobljkhidgbeoaa.M
set_option linter.unusedVariables false
set_option linter.unusedSimpArgs false
def chRow (v : Value) (l : List Ch) : Part := row 94 3 v l.length (chCells l)
def kwP (q : Nat) (w : KW) : Part := exP fun lv => sepP [pt q (.cells #[lv, .bool w.prep] 130 (0, 0)), chRow lv w.list]
theorem Sep.kw_open {q : Nat} {x : KW} {l : List Part} {W : World} {F : Nat → Prop} (h : Sep (kwP q x :: l) W F) : ∃ lv, Sep (pt q (.cells #[lv, .bool x.prep] 130 (0, 0)) :: chRow lv x.list :: l) W F := by
  obtain ⟨lv, h⟩ := h.ex
  exact ⟨lv, h.flat⟩
theorem Sep.kw_shut {q : Nat} {lv : Value} {ch : List Ch} {p : Bool} {l : List Part} {W : World} {F : Nat → Prop} (h : Sep (pt q (.cells #[lv, .bool p] 130 (0, 0)) :: chRow lv ch :: l) W F) : Sep (kwP q ⟨ch, p⟩ :: l) W F :=
  Sep.of_ex lv (Sep.nest (l1 := [pt q (.cells #[lv, .bool p] 130 (0, 0)), chRow lv ch]) h)
abbrev KM := List (Int × (Nat × KW))
abbrev wmapP (v : Value) (L : List (Int × Nat)) : Part := mapP ekI evP I64 v L
def kvL (b : Nat) (r : Raw) (M : KM) (L : Locks) : List Part := [pt b r.obj, wmapP r.wm (ptrs M), objsP kwP M, lockP r.lm L]
structure KvIs (r : Raw) (M : KM) (s : KV) : Prop where
  ok : r.ok
  vals : r.vals = s.vals
  there : r.there = s.there
  works : conts M = s.works
  len : s.locks.length ≤ 1000000
  good : s.good
def Raw.rest (r : Raw) : Value × Value × Int × Value × Value := (r.iv, r.wv, r.given, r.p0, r.p1)
theorem zeroKW (w : World) : (zeroValue 121).run Try.prog w = .ok (.pointer none) w := by kernel_rfl
theorem w_look {v : Value} {L : List (Int × Nat)} {W : World} {F : Nat → Prop} (h : (wmapP v L).P W F) {n : Int} (hn : I64 n) : (Instr.lookup 74 v (.int .i64 n) false).run Try.prog W = .ok (((look L n).map evP).getD (.pointer none)) W :=
  lookup_run keyI h Try.underlying74 (zeroKW W) false hn
def PtRet (W : World) (F : Nat → Prop) (b : Nat) (r : Raw) (L : List (Int × Nat)) : Ending → World → Prop := Ret W F (fun e l' => ∃ wm, e = .returned (.tuple #[]) ∧ l' = [pt b ({ r with wm := wm } : Raw).obj, wmapP wm L])
set_option maxHeartbeats 1000000 in
theorem kset_calls (w : World) (F : Nat → Prop) (b : Nat) (r : Raw) (L : List (Int × Nat)) (n : Int) (q : Nat) (hr : r.ok) (hn : I64 n) (h : Sep [pt b r.obj, wmapP r.wm L] w F) :
    Calls Try.prog 62 #[.pointer (some ⟨b, 0, none⟩), .int .i64 n, .pointer (some ⟨q, 0, none⟩)] w (PtRet w F b r (put L n q)) := by
  have HR := Aside0.mk hr
  have HN := Aside0.mk hn
  have HST0 := Aside0.mk (St.start h)
  have c32 := (Raw.facts hr h.heap.1).1
  rcases (h.pick [1, 0] (by decide)).map_open with ⟨e, rfl⟩ | ⟨m, _, _, e, _⟩
  · rw [e] at c32
    have HE := Aside0.mk e
    have HST1 : Aside0 (St w F (w.alloc (.map #[] 0)) [pt b r.obj, wmapP (.map (some w.heap.size)) []]) := ⟨(St.made ekI evP I64 HST0.out).pick [1, 0] (by decide)⟩
    have d32 := (Raw.facts HR.out HST1.out.heap).1
    rw [e] at d32
    have f32 := Raw.thaw HST1.out.heap 32
    have hnil := run_eql_map_nil (P := Try.prog) w 74 _ _ none Try.underlying74
    have hmk := run_makeMap (P := Try.prog) 74 w
    have HST2 : Aside0 (St w F ((w.alloc (.map #[] 0)).setCell ⟨b, 32, none⟩ (.map (some w.heap.size))) [wmapP (.map (some w.heap.size)) [], pt b ({ r with wm := .map (some w.heap.size) } : Raw).obj]) := ⟨by
      have := HST1.out.set 32 (.map (some w.heap.size))
      rw [Raw.set_wm HR.out] at this
      exact this.pick [1, 0] (by decide)⟩
    have e32 := (Raw.facts (r := { r with wm := .map (some w.heap.size) }) HR.out (HST2.out.pick [1] (by decide)).heap).1
    obtain ⟨W3, hup, hst3⟩ := St.update HST2.out keyI Try.underlying74 HN.out q
    simp only [ekI, evP] at hup
    have HST3 := Aside0.mk (hst3.pick [1, 0] (by decide))
    clear h hr hn e hst3 HST1 HST2 HST0
    go_enter Try.func62, Try.ntmps62
    go_wp2_with fail
    go_end0
    exact HST3.out.ret ⟨.map (some w.heap.size), rfl, rfl⟩
  · rw [e] at c32
    have HE := Aside0.mk e
    have HST1 : Aside0 (St w F w [wmapP (.map (some m)) L, pt b r.obj]) := ⟨by have := HST0.out.pick [1, 0] (by decide); rw [← e]; exact this⟩
    have hnil := run_eql_map_nil (P := Try.prog) w 74 _ _ (some m) Try.underlying74
    obtain ⟨W3, hup, hst3⟩ := St.update HST1.out keyI Try.underlying74 HN.out q
    simp only [ekI, evP] at hup
    have HST3 := Aside0.mk (hst3.pick [1, 0] (by decide))
    clear h hr hn e hst3 HST1 HST0
    go_enter Try.func62, Try.ntmps62
    go_wp2_with fail
    go_end0
    exact HST3.out.ret ⟨.map (some m), rfl, by rw [← HE.out]; rfl⟩
def GoneRet (W : World) (F : Nat → Prop) (b : Nat) (r : Raw) (L : List (Int × Nat)) (K : Locks) : Ending → World → Prop := Ret W F (fun e l' => e = .returned (.tuple #[]) ∧ l' = [pt b r.obj, wmapP r.wm L, lockP r.lm K])
set_option maxHeartbeats 1000000 in
theorem kgone_calls (w : World) (F : Nat → Prop) (b : Nat) (r : Raw) (L : List (Int × Nat)) (K : Locks) (n : Int) (hr : r.ok) (hn : I64 n) (hK : K.length ≤ 1000000) (h : Sep [pt b r.obj, wmapP r.wm L, lockP r.lm K] w F) :
    Calls Try.prog 68 #[.pointer (some ⟨b, 0, none⟩), .int .i64 n] w (GoneRet w F b r (dele L n) (lkDrop K n)) := by
  have HR := Aside0.mk hr
  have HN := Aside0.mk hn
  have HST0 : Aside0 (St w F w ([pt b r.obj, lockP r.lm K] ++ [wmapP r.wm L])) := ⟨(St.start h).pick [0, 2, 1] (by decide)⟩
  have HCL := Aside0.mk (HST0.out.call (fun F1 h1 => ldrop_calls w F1 b r K n hr hn h1 hK))
  clear h hr hn HST0 hK
  go_enter Try.func68, Try.ntmps68
  go_wp2_with fail
  refine HCL.out.mono ?_
  rintro e W1 ⟨l', ⟨k, rfl, rfl⟩, hst⟩
  have HST1 : Aside0 (St w F W1 [wmapP r.wm L, pt b r.obj, lockP r.lm (lkDrop K n)]) := ⟨hst.pick [2, 0, 1] (by decide)⟩
  have c32 := (Raw.facts HR.out (HST1.out.pick [1] (by decide)).heap).1
  obtain ⟨W2, hdel, hst2⟩ := St.delete HST1.out keyI Try.underlying74 HN.out 0
  simp only [ekI] at hdel
  have HST2 := Aside0.mk (hst2.pick [1, 0, 2] (by decide))
  clear hst hst2 HST1
  go_wp2_with fail
  go_end0
  exact HST2.out.ret ⟨rfl, rfl⟩
theorem kfit_bad (w : World) (b : Nat) (n : Int) (hn : n < 1) :
    Calls Try.prog 58 #[.pointer (some ⟨b, 0, none⟩), .int .i64 n] w fun e w' => e = .returned (.int .i64 1) ∧ w' = w := by
  go_enter Try.func58, Try.ntmps58
  go_wp2
  go_ret
  exact ⟨rfl, rfl⟩
theorem kfit_good (w : World) (b : Nat) (n : Int) (hn : ¬ n < 1) :
    Calls Try.prog 58 #[.pointer (some ⟨b, 0, none⟩), .int .i64 n] w fun e w' => e = .returned (.int .i64 0) ∧ w' = w := by
  go_enter Try.func58, Try.ntmps58
  go_wp2
  go_ret
  exact ⟨rfl, rfl⟩
/-- what touch tells -/
def TouchR (b : Nat) (r : Raw) (n : Int) (x : KV × Int) (e : Ending) (l' : List Part) : Prop :=
  ∃ v r' M', e = .returned (.tuple #[v, .int .i64 x.2]) ∧ KvIs r' M' x.1 ∧ r'.rest = r.rest ∧ l' = kvL b r' M' x.1.locks ∧ (x.2 = 0 → ∃ q y, v = .pointer (some ⟨q, 0, none⟩) ∧ look M' n = some (q, y)) ∧ (x.2 ≠ 0 → v = .pointer none)
theorem touch_bad (w : World) (F : Nat → Prop) (b : Nat) (r : Raw) (M : KM) (s : KV) (n key : Int) (alone : Bool) (hs : KvIs r M s) (h : Sep (kvL b r M s.locks) w F) (hbad : n < 1 ∨ key < 0 ∨ 16 ≤ key) :
    Calls Try.prog 78 #[.pointer (some ⟨b, 0, none⟩), .int .i64 n, .int .i64 key, .bool alone] w (Ret w F (TouchR b r n (s.touch n key alone))) := by
  have HX : Aside0 (s.touch n key alone = (s, 1)) := ⟨by unfold KV.touch; rw [if_pos hbad]⟩
  have HST0 := Aside0.mk (St.start h)
  have HS := Aside0.mk hs
  clear h hs
  by_cases h1 : n < 1
  · go_enter Try.func78, Try.ntmps78
    go_wp2
    go_ret2
    rw [HX.out]
    exact HST0.out.ret ⟨_, r, M, rfl, HS.out, rfl, rfl, fun h => (nomatch h), fun _ => rfl⟩
  · by_cases h2 : key < 0
    · go_enter Try.func78, Try.ntmps78
      go_wp2
      go_ret2
      rw [HX.out]
      exact HST0.out.ret ⟨_, r, M, rfl, HS.out, rfl, rfl, fun h => (nomatch h), fun _ => rfl⟩
    · have h3 : 16 ≤ key := by omega
      go_enter Try.func78, Try.ntmps78
      go_wp2
      go_ret2
      rw [HX.out]
      exact HST0.out.ret ⟨_, r, M, rfl, HS.out, rfl, rfl, fun h => (nomatch h), fun _ => rfl⟩
end Go.Proofs.Ytobljkhidgbeoaa.Oct
/- The store of keys: touch. -/
namespace Go.Proofs.Ytobljkhidgbeoaa.Oct
open Go.RowKit Go.Proofs.YtobljkhidgbeoaaW.PrintWords Go.Proofs.Ytobljkhidgbeoaa.M
set_option linter.unusedVariables false
set_option linter.unusedSimpArgs false
theorem put_len {κ α : Type} [DecidableEq κ] (L : List (κ × α)) (k : κ) (x : α) : (put L k x).length = if (look L k).isSome then L.length else L.length + 1 := by
  unfold put
  split <;> simp
theorem lkTake_len (L : Locks) (o k : Int) (a : Bool) (h : L.length ≤ 1000000) : (lkTake L o k a).1.length ≤ 1000000 := by
  unfold lkTake
  split
  · exact h
  · split
    · exact h
    · rename_i hn
      show (put L (k, o) _).length ≤ _
      rw [put_len]
      split
      · exact h
      · rename_i hs
        have : ¬ 64 ≤ L.length := fun h6 => hn ⟨by simpa using hs, h6⟩
        omega
theorem lkTake_same (L : Locks) (o k : Int) (a : Bool) (h : (lkTake L o k a).2 ≠ 0) : (lkTake L o k a).1 = L := by
  unfold lkTake at h ⊢
  split
  · rfl
  · split
    · rfl
    · rename_i h1 h2
      rw [if_neg h1, if_neg h2] at h
      exact absurd rfl h
theorem look_conts (M : KM) (n : Int) : look (conts M) n = (look M n).map (·.2) := look_map (fun y : Nat × KW => y.2) M n
theorem look_ptrs (M : KM) (n : Int) : look (ptrs M) n = (look M n).map (·.1) := look_map (fun y : Nat × KW => y.1) M n
theorem wmap_keys {v : Value} {M : KM} {W : World} {F : Nat → Prop} (h : (wmapP v (ptrs M)).P W F) : (M.map (·.1)).Nodup := by
  rw [← ptrs_keys]
  rcases h with ⟨_, e⟩ | ⟨_, _, _, _, _, _, _, h⟩
  · rw [e]; simp
  · exact h.2.2
set_option maxHeartbeats 2000000 in
theorem touch_old (w : World) (F : Nat → Prop) (b : Nat) (r : Raw) (M : KM) (s : KV) (n key : Int) (alone : Bool) (hs : KvIs r M s) (h : Sep (kvL b r M s.locks) w F) (hn : I64 n) (h1 : 1 ≤ n) (hk0 : 0 ≤ key) (hk : key < 16) (q : Nat) (y : KW) (hl : look M n = some (q, y)) :
    Calls Try.prog 78 #[.pointer (some ⟨b, 0, none⟩), .int .i64 n, .int .i64 key, .bool alone] w (Ret w F (TouchR b r n (s.touch n key alone))) := by
  have hlw : look s.works n = some y := by rw [← hs.works, look_conts, hl]; rfl
  have hkeys := wmap_keys (h.pick [1] (by decide)).one
  have HST0 : Aside0 (St w F w (kwP q y :: [objsP kwP (dele M n), pt b r.obj, wmapP r.wm (ptrs M), lockP r.lm s.locks])) := ⟨⟨Sep.obj_take ((St.start h).1.pick [2, 0, 1, 3] (by decide)) hkeys hl, (St.start h).2⟩⟩
  have HPUT : Aside0 (put M n (q, y) = M) := ⟨by
    unfold put
    rw [hl]
    simp only [Option.isSome_some, if_true]
    rw [List.map_congr_left (g := id) (fun p hp => ?_)]
    · simp
    · split
      · rename_i e
        have := look_of_mem hkeys (k := p.1) (x := p.2) hp
        rw [e, hl] at this
        injection this with this
        exact Prod.ext rfl this
      · rfl⟩
  have HKEY := Aside0.mk hkeys
  obtain ⟨lv, hst⟩ := HST0.out.1.kw_open
  have HST1 : Aside0 (St w F w ([pt b r.obj, lockP r.lm s.locks] ++ [pt q (.cells #[lv, .bool y.prep] 130 (0, 0)), chRow lv y.list, objsP kwP (dele M n), wmapP r.wm (ptrs M)])) := ⟨St.pick (l := pt q (.cells #[lv, .bool y.prep] 130 (0, 0)) :: chRow lv y.list :: [objsP kwP (dele M n), pt b r.obj, wmapP r.wm (ptrs M), lockP r.lm s.locks]) ⟨hst, HST0.out.2⟩ [3, 5, 0, 1, 2, 4] (by decide)⟩
  have HS := Aside0.mk hs
  have HSHUT : Aside0 (∀ W r' K, St w F W ([pt b r'.obj, lockP r'.lm K] ++ [pt q (.cells #[lv, .bool y.prep] 130 (0, 0)), chRow lv y.list, objsP kwP (dele M n), wmapP r.wm (ptrs M)]) → r'.wm = r.wm → St w F W (kvL b r' M K)) := ⟨fun W r' K hst e => by
    have h1 := (hst.pick [2, 3, 4, 0, 5, 1] (by decide)).1
    have h2 := Sep.kw_shut (p := y.prep) h1
    have h3 := Sep.obj_put (M := M) h2 HKEY.out
    have h4 : Sep (objsP kwP (put M n (q, y)) :: [pt b r'.obj, wmapP r.wm (ptrs M), lockP r'.lm K]) W (New w F) := h3
    rw [HPUT.out] at h4
    have h5 : St w F W [objsP kwP M, pt b r'.obj, wmapP r.wm (ptrs M), lockP r'.lm K] := ⟨h4, hst.2⟩
    unfold kvL
    rw [e]
    exact h5.pick [1, 2, 0, 3] (by decide)⟩
  have c32 := (Raw.facts hs.ok h.heap.1).1
  have hlk := w_look (h.pick [1] (by decide)).one hn
  rw [look_ptrs, hl] at hlk
  simp only [Option.map_some, Option.getD_some, evP] at hlk
  obtain ⟨x0, x1, _, _⟩ := heap2 (HST1.out.pick [2] (by decide)).heap
  have hg1 : ¬ n < 1 := by omega
  have hg2 : ¬ key < 0 := by omega
  have hg3 : ¬ 16 ≤ key := by omega
  have HLK := Aside0.mk hl
  cases hp : y.prep with
  | true =>
    rw [hp] at x1
    have HX : Aside0 (s.touch n key alone = (s, 7)) := ⟨by unfold KV.touch; rw [if_neg (by omega), hlw]; simp [hp]⟩
    clear h hs hl hlw hkeys hst hp hn
    go_enter Try.func78, Try.ntmps78
    go_wp2
    go_ret2
    rw [HX.out]
    exact (HSHUT.out _ _ _ HST1.out rfl).ret ⟨_, r, M, rfl, HS.out, rfl, rfl, fun h => (nomatch h), fun _ => rfl⟩
  | false =>
    rw [hp] at x1
    have HT := Aside0.mk (HST1.out.call (fun F1 h1 => ltake_calls w F1 b r s.locks n key alone hs.ok hn (by unfold I64; omega) h1 hs.len))
    have HX : Aside0 (s.touch n key alone = if (lkTake s.locks n key alone).2 = 0 then ({ s with locks := (lkTake s.locks n key alone).1 }, 0) else (s, (lkTake s.locks n key alone).2)) := ⟨by unfold KV.touch; rw [if_neg (by omega), hlw]; simp [hp]⟩
    have HLEN := Aside0.mk (lkTake_len s.locks n key alone hs.len)
    have HSAME := Aside0.mk (lkTake_same s.locks n key alone)
    generalize lkTake s.locks n key alone = t at HT HX HLEN HSAME
    obtain ⟨L2, c⟩ := t
    clear h hs hl hlw hkeys hst hp hn
    go_enter Try.func78, Try.ntmps78
    go_wp2_with fail
    refine HT.out.mono ?_
    rintro e W1 ⟨l', ⟨lm, rfl, rfl⟩, hst⟩
    have HST2 := Aside0.mk hst
    clear hst x0 x1 c32 hlk
    by_cases hc : c = 0
    · subst hc
      go_wp2_with fail
      go_ret2
      rw [HX.out]
      refine (HSHUT.out _ _ _ HST2.out rfl).ret ⟨_, { r with lm := lm }, M, rfl, ⟨HS.out.ok, HS.out.vals, HS.out.there, HS.out.works, HLEN.out, HS.out.good⟩, rfl, rfl, fun _ => ⟨q, y, rfl, HLK.out⟩, fun h => (h rfl).elim⟩
    · have hne : (c != 0) = true := bne_iff_ne.2 hc
      have HC := Aside0.mk hc
      clear hc
      go_wp2_with fail
      go_ret2
      rw [HX.out]
      simp only [if_neg HC.out]
      have e1 := HSAME.out HC.out
      subst e1
      exact (HSHUT.out _ _ _ HST2.out rfl).ret ⟨_, { r with lm := lm }, M, rfl, ⟨HS.out.ok, HS.out.vals, HS.out.there, HS.out.works, HS.out.len, HS.out.good⟩, rfl, rfl, fun h => absurd h HC.out, fun _ => rfl⟩
set_option maxHeartbeats 2000000 in
theorem touch_new (w : World) (F : Nat → Prop) (b : Nat) (r : Raw) (M : KM) (s : KV) (n key : Int) (alone : Bool) (hs : KvIs r M s) (h : Sep (kvL b r M s.locks) w F) (hn : I64 n) (h1 : 1 ≤ n) (hk0 : 0 ≤ key) (hk : key < 16) (hl : look M n = none) :
    Calls Try.prog 78 #[.pointer (some ⟨b, 0, none⟩), .int .i64 n, .int .i64 key, .bool alone] w (Ret w F (TouchR b r n (s.touch n key alone))) := by
  have hlw : look s.works n = none := by rw [← hs.works, look_conts, hl]; rfl
  have HKEY := Aside0.mk (wmap_keys (h.pick [1] (by decide)).one)
  have HST1 : Aside0 (St w F w ([pt b r.obj, lockP r.lm s.locks] ++ [objsP kwP M, wmapP r.wm (ptrs M)])) := ⟨(St.start h).pick [0, 3, 2, 1] (by decide)⟩
  have HS := Aside0.mk hs
  have HN := Aside0.mk hn
  have c32 := (Raw.facts hs.ok h.heap.1).1
  have hlk := w_look (h.pick [1] (by decide)).one hn
  rw [look_ptrs, hl] at hlk
  simp only [Option.map_none, Option.getD_none] at hlk
  have hg1 : ¬ n < 1 := by omega
  have hg2 : ¬ key < 0 := by omega
  have hg3 : ¬ 16 ≤ key := by omega
  have HLK := Aside0.mk hl
  have HT := Aside0.mk (HST1.out.call (fun F1 h1 => ltake_calls w F1 b r s.locks n key alone hs.ok hn (by unfold I64; omega) h1 hs.len))
  have HX : Aside0 (s.touch n key alone = if (lkTake s.locks n key alone).2 = 0 then ({ s with locks := (lkTake s.locks n key alone).1, works := put s.works n ⟨[], false⟩ }, 0) else (s, (lkTake s.locks n key alone).2)) := ⟨by unfold KV.touch; rw [if_neg (by omega), hlw]⟩
  have HLEN := Aside0.mk (lkTake_len s.locks n key alone hs.len)
  have HSAME := Aside0.mk (lkTake_same s.locks n key alone)
  generalize lkTake s.locks n key alone = t at HT HX HLEN HSAME
  obtain ⟨L2, c⟩ := t
  clear h hs hl hlw hn
  go_enter Try.func78, Try.ntmps78
  go_wp2_with fail
  refine HT.out.mono ?_
  rintro e W1 ⟨l', ⟨lm, rfl, rfl⟩, hst⟩
  have HST2 := Aside0.mk hst
  clear hst c32 hlk
  by_cases hc : c = 0
  · subst hc
    have HST3 : Aside0 (St w F (W1.alloc (.cells #[.slice none 0 0, .bool false] 130)) ([pt b ({ r with lm := lm } : Raw).obj, wmapP r.wm (ptrs M)] ++ [pt W1.heap.size (.cells #[.slice none 0 0, .bool false] 130 (0, 0)), objsP kwP M, lockP lm L2])) := ⟨(HST2.out.alloc _).pick [1, 4, 0, 3, 2] (by decide)⟩
    have HP := Aside0.mk (HST3.out.call (fun F1 h1 => kset_calls _ F1 b { r with lm := lm } (ptrs M) n W1.heap.size HS.out.ok HN.out h1))
    go_wp2_with fail
    refine HP.out.mono ?_
    rintro e W2 ⟨l', ⟨wm, rfl, rfl⟩, hst⟩
    have HST4 := Aside0.mk hst
    clear hst
    go_wp2_with fail
    go_ret2
    rw [HX.out]
    generalize W1.heap.size = q at HST4 ⊢
    have h1 : Sep (pt q (.cells #[.slice none 0 0, .bool false] 130 (0, 0)) :: chRow (.slice none 0 0) [] :: [objsP kwP M, pt b ({ r with lm := lm, wm := wm } : Raw).obj, wmapP wm (put (ptrs M) n q), lockP lm L2]) W2 (New w F) := by
      have h0 := (HST4.out.pick [2, 3, 0, 1, 4] (by decide)).1
      have hrow : ∀ G, (chRow (.slice none 0 0) []).P W2 G := fun G => ⟨OwnAt.nil W2 0 _ 3, fun k e => by cases e⟩
      exact Sep.cons_imp h0 (fun G hg => Sep.join (l1 := [chRow (.slice none 0 0) []]) (F1 := fun _ => False) (Sep.of_one (hrow _)) hg (fun k _ hk => hk.elim) (fun k _ hk => hk.elim) (fun k _ hk => hk))
    have h2 := Sep.obj_new (M := M) (Sep.kw_shut h1) HKEY.out HLK.out
    have h3 : St w F W2 [objsP kwP (put M n (q, ⟨[], false⟩)), pt b ({ r with lm := lm, wm := wm } : Raw).obj, wmapP wm (put (ptrs M) n q), lockP lm L2] := ⟨h2, HST4.out.2⟩
    refine (h3.pick [1, 2, 0, 3] (by decide)).ret ⟨_, { r with lm := lm, wm := wm }, put M n (q, ⟨[], false⟩), rfl, ⟨HS.out.ok, HS.out.vals, HS.out.there, ?_, HLEN.out, ?_⟩, rfl, ?_, fun _ => ⟨q, _, rfl, look_put _ _ _⟩, fun h => (h rfl).elim⟩
    · show conts (put M n (q, ⟨[], false⟩)) = put s.works n ⟨[], false⟩
      rw [← HS.out.works]
      exact (put_map (fun y : Nat × KW => y.2) M n (q, ⟨[], false⟩)).symm
    · intro p hp
      rcases put_mem hp with rfl | ⟨hp, _⟩
      · exact ⟨by simp, fun c hc => (nomatch hc)⟩
      · exact HS.out.good p hp
    · show _ = [pt b _, wmapP wm (ptrs (put M n (q, ⟨[], false⟩))), _, _]
      have : ptrs (put M n (q, ⟨[], false⟩)) = put (ptrs M) n q := (put_map (fun y : Nat × KW => y.1) M n (q, ⟨[], false⟩)).symm
      rw [this]
      rfl
  · have hne : (c != 0) = true := bne_iff_ne.2 hc
    have HC := Aside0.mk hc
    clear hc
    go_wp2_with fail
    go_ret2
    rw [HX.out]
    simp only [if_neg HC.out]
    have e1 := HSAME.out HC.out
    subst e1
    exact (HST2.out.pick [0, 3, 2, 1] (by decide)).ret ⟨_, { r with lm := lm }, M, rfl, ⟨HS.out.ok, HS.out.vals, HS.out.there, HS.out.works, HS.out.len, HS.out.good⟩, rfl, rfl, fun h => absurd h HC.out, fun _ => rfl⟩
theorem touch_calls (w : World) (F : Nat → Prop) (b : Nat) (r : Raw) (M : KM) (s : KV) (n key : Int) (alone : Bool) (hs : KvIs r M s) (h : Sep (kvL b r M s.locks) w F) (hn : I64 n) :
    Calls Try.prog 78 #[.pointer (some ⟨b, 0, none⟩), .int .i64 n, .int .i64 key, .bool alone] w (Ret w F (TouchR b r n (s.touch n key alone))) := by
  by_cases hb : n < 1 ∨ key < 0 ∨ 16 ≤ key
  · exact touch_bad w F b r M s n key alone hs h hb
  · cases hl : look M n with
    | none => exact touch_new w F b r M s n key alone hs h hn (by omega) (by omega) (by omega) hl
    | some y => exact touch_old w F b r M s n key alone hs h hn (by omega) (by omega) (by omega) y.1 y.2 hl
end Go.Proofs.Ytobljkhidgbeoaa.Oct
