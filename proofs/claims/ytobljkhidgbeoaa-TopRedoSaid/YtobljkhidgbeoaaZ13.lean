
import Derived.Test.YtobljkhidgbeoaaZ12
/- The store of keys: Restore, Value. -/
namespace Go.Proofs.Ytobljkhidgbeoaa.Oct
open Go.RowKit Go.Proofs.YtobljkhidgbeoaaW.PrintWords Go.Proofs.Ytobljkhidgbeoaa.M
set_option linter.unusedVariables false
set_option linter.unusedSimpArgs false
theorem kvRight_good : ∀ (l : List Ch) (s : List Int), kvRight l s = true → (∀ c ∈ l, chFit c = true ∧ s.contains c.key = false) ∧ (l.map (·.key)).Nodup
  | [], s, _ => ⟨fun c hc => (nomatch hc), by simp⟩
  | c :: l, s, h => by
    have hf : chFit c = true := by
      cases hf : chFit c with
      | true => rfl
      | false => rw [kvRight_no (.inl hf)] at h; cases h
    have hc : s.contains c.key = false := by
      cases hc : s.contains c.key with
      | false => rfl
      | true => rw [kvRight_no (.inr hc)] at h; cases h
    rw [kvRight_yes hf hc] at h
    obtain ⟨h1, h2⟩ := kvRight_good l _ h
    refine ⟨fun d hd => ?_, ?_⟩
    · rcases List.mem_cons.1 hd with rfl | hd
      · exact ⟨hf, hc⟩
      · obtain ⟨h3, h4⟩ := h1 d hd
        rw [List.contains_cons, Bool.or_eq_false_iff] at h4
        exact ⟨h3, h4.2⟩
    · rw [List.map_cons, List.nodup_cons]
      refine ⟨fun hm => ?_, h2⟩
      obtain ⟨d, hd, e⟩ := List.mem_map.1 hm
      have := (h1 d hd).2
      rw [List.contains_cons, Bool.or_eq_false_iff] at this
      have h5 := this.1
      rw [e] at h5
      simp at h5
theorem lkAll_len (n : Int) : ∀ (l : List Ch) (L : Locks), L.length ≤ 1000000 → (lkAll L n l).1.length ≤ 1000000
  | [], L, h => h
  | c :: l, L, h => by
    unfold lkAll
    split
    · exact lkAll_len n l _ (lkTake_len L n c.key true h)
    · exact h
theorem lkAll_step (L : Locks) (n : Int) (l : List Ch) (k : Nat) (hk : k < l.length) (L1 : Locks) (h : lkAll L n l = lkAll L1 n (l.drop k)) :
    ((lkTake L1 n (l.getD k ch0).key true).2 = 0 → lkAll L n l = lkAll (lkTake L1 n (l.getD k ch0).key true).1 n (l.drop (k + 1))) ∧ ((lkTake L1 n (l.getD k ch0).key true).2 ≠ 0 → lkAll L n l = (L1, (lkTake L1 n (l.getD k ch0).key true).2)) := by
  have hd : l.drop k = l.getD k ch0 :: l.drop (k + 1) := by rw [List.drop_eq_getElem_cons hk, List.getD_eq_getElem?_getD, List.getElem?_eq_getElem hk]; rfl
  rw [h, hd]
  constructor
  · intro h0
    rw [lkAll, if_pos h0]
  · intro h0
    rw [lkAll, if_neg h0]
set_option maxRecDepth 100000 in
set_option maxHeartbeats 4000000 in
theorem krestore_calls (w : World) (F : Nat → Prop) (b : Nat) (r : Raw) (M : KM) (s : KV) (n : Int) (l : List Ch) (A : Option Addr) (cp : Nat) (hs : KvIs r M s) (h : Sep (kvL b r M s.locks) w F) (hn : I64 n) (hl : ∀ W, Kp w F W → ChAt W A l) (hll : l.length ≤ 10000000) (hv : ∀ c ∈ l, U64 c.val) :
    Calls Try.prog 40 #[.pointer (some ⟨b, 0, none⟩), .int .i64 n, .slice A l.length cp] w (Ret w F (KvR b r (s.restore n l))) := by
  have HST0 := Aside0.mk (St.start h)
  have HS := Aside0.mk hs
  have HN := Aside0.mk hn
  have HL := Aside0.mk hl
  by_cases h1 : n < 1
  · have HX : Aside0 (s.restore n l = (s, 1)) := ⟨by unfold KV.restore; rw [if_pos h1]⟩
    clear h hs hl hll
    go_enter Try.func40, Try.ntmps40
    go_wp2_with fail
    refine (kfit_bad w b n h1).mono ?_
    rintro e W1 ⟨rfl, hw⟩
    have hw := hw.symm
    subst hw
    go_wp2_with fail
    go_ret
    rw [HX.out]
    exact HST0.out.ret ⟨r, M, rfl, HS.out, rfl, rfl⟩
  · have HR := Aside0.mk (kright_calls w l A cp (hl w (Kp.refl _ _)) hll)
    have HBB : Aside0 (∀ W, Below w.heap.size w W → St w F W (kvL b r M s.locks)) := ⟨fun W hW => HST0.out.below hW⟩
    cases hr : kvRight l [] with
    | false =>
      have HX : Aside0 (s.restore n l = (s, 1)) := ⟨by unfold KV.restore; rw [if_neg h1, if_pos hr]⟩
      rw [hr] at HR
      clear h hs hl hr
      go_enter Try.func40, Try.ntmps40
      go_wp2_with fail
      refine (kfit_good w b n (by omega)).mono ?_
      rintro e W1 ⟨rfl, hw⟩
      have hw := hw.symm
      subst hw
      go_wp2_with fail
      refine HR.out.mono ?_
      rintro e W1 ⟨rfl, hb1⟩
      have HST1 := Aside0.mk (HBB.out _ hb1)
      clear hb1
      go_wp2_with fail
      go_ret
      rw [HX.out]
      exact HST1.out.ret ⟨r, M, rfl, HS.out, rfl, rfl⟩
    | true =>
      rw [hr] at HR
      have HRT := Aside0.mk hr
      have hgood : chGood l := ⟨(kvRight_good l [] hr).2, fun c hc => ⟨((kvRight_good l [] hr).1 c hc).1, hv c hc⟩⟩
      have HGOOD := Aside0.mk hgood
      have HW : Aside0 (look s.works n = (look M n).map (·.2)) := ⟨by rw [← hs.works, look_conts]⟩
      have HLK : Aside0 (∀ W, St w F W (kvL b r M s.locks) → (Instr.lookup 74 r.wm (.int .i64 n) false).run Try.prog W = .ok (((look M n).map (fun y => evP y.1)).getD (.pointer none)) W) := ⟨fun W hst => by
        have := w_look (hst.pick [1] (by decide)).1.one HN.out
        rw [look_ptrs] at this
        rw [this, Option.map_map]
        rfl⟩
      cases hlm : look M n with
      | some qy =>
        have HX : Aside0 (s.restore n l = (s, 7)) := ⟨by unfold KV.restore; rw [if_neg h1, if_neg (by rw [hr]; decide), HW.out, hlm]; rfl⟩
        rw [hlm] at HLK
        clear h hs hl hr hlm hgood HW
        go_enter Try.func40, Try.ntmps40
        go_wp2_with fail
        refine (kfit_good w b n (by omega)).mono ?_
        rintro e W1 ⟨rfl, hw⟩
        have hw := hw.symm
        subst hw
        go_wp2_with fail
        refine HR.out.mono ?_
        rintro e W2 ⟨rfl, hb1⟩
        have HST1 := Aside0.mk (HBB.out _ hb1)
        have c32 := (Raw.facts HS.out.ok HST1.out.heap).1
        have hlk := HLK.out W2 HST1.out
        simp only [Option.map_some, Option.getD_some, evP] at hlk
        clear hb1
        go_wp2_with fail
        go_ret
        rw [HX.out]
        exact HST1.out.ret ⟨r, M, rfl, HS.out, rfl, rfl⟩
      | none =>
        have HX : Aside0 (s.restore n l = if (lkAll s.locks n l).2 ≠ 0 then ({ s with locks := lkDrop (lkAll s.locks n l).1 n }, (lkAll s.locks n l).2) else if l = [] then ({ s with locks := (lkAll s.locks n l).1 }, 0) else ({ s with locks := (lkAll s.locks n l).1, works := put s.works n ⟨l, true⟩ }, 0)) := ⟨by unfold KV.restore; rw [if_neg h1, if_neg (by rw [hr]; decide), HW.out, hlm]; rfl⟩
        rw [hlm] at HLK
        have HLM := Aside0.mk hlm
        have HKEY := Aside0.mk (wmap_keys (h.pick [1] (by decide)).one)
        obtain ⟨m, hm⟩ : ∃ m, m = l.length := ⟨_, rfl⟩
        rw [← hm] at HR
        have HM := Aside0.mk hm
        have hmm : m ≤ 10000000 := by omega
        rw [← hm]
        clear h hs hl hr hlm hgood HW hm hll
        go_enter Try.func40, Try.ntmps40
        go_wp2_with fail
        refine (kfit_good w b n (by omega)).mono ?_
        rintro e W1 ⟨rfl, hw⟩
        have hw := hw.symm
        subst hw
        go_wp2_with fail
        refine HR.out.mono ?_
        rintro e W2 ⟨rfl, hb1⟩
        have HST1 := Aside0.mk (HBB.out _ hb1)
        have c32 := (Raw.facts HS.out.ok HST1.out.heap).1
        have hlk := HLK.out W2 HST1.out
        simp only [Option.map_none, Option.getD_none] at hlk
        clear hb1 HR
        go_wp2_with fail
        go_loopw [9, 10, 29] (fun _ _ v29 wr => ∃ (k : Nat) (lm : Value) (L1 : Locks), k ≤ m ∧ v29 = .int .i64 k ∧ Aside0 (St w F wr (kvL b { r with lm := lm } M L1)) ∧ Aside0 (lkAll s.locks n l = lkAll L1 n (l.drop k) ∧ L1.length ≤ 1000000)) (fun _ _ v _ => m - (intOf v).toNat)
        case atStart => exact ⟨0, r.lm, s.locks, by omega, rfl, HST1, ⟨rfl, HS.out.len⟩⟩
        case round =>
          obtain ⟨k, lm, L1, hk, rfl, HST, HF⟩ := hrel
          by_cases hlt : k < m
          · have hlt' : (k : Int) < (m : Int) := by omega
            have hkl : k < l.length := by rw [← HM.out]; exact hlt
            obtain ⟨ad, rfl, k0, k1, k2⟩ := (HL.out wr HST.out.2) k hkl
            have hstep := lkAll_step s.locks n l k hkl L1 HF.out.1
            obtain ⟨c, hc⟩ : ∃ c, c = l.getD k ch0 := ⟨_, rfl⟩
            rw [← hc] at k0 k1 k2 hstep
            have hck := chFit_key (HGOOD.out.2 c (by rw [hc, List.getD_eq_getElem?_getD, List.getElem?_eq_getElem hkl]; exact List.getElem_mem hkl)).1
            have HST3 : Aside0 (St w F (wr.alloc (.cells #[.int .i64 c.kind, .int .i64 c.key, .int .u64 c.val] 94)) ([pt b ({ r with lm := lm } : Raw).obj, lockP lm L1] ++ [pt wr.heap.size c.box, wmapP r.wm (ptrs M), objsP kwP M])) := ⟨(HST.out.alloc _).pick [1, 4, 0, 2, 3] (by decide)⟩
            have HSTEP := Aside0.mk hstep
            have HCK := Aside0.mk hck
            clear hc hstep hck
            go_wp2_with fail
            generalize wr.heap.size = b9 at HST3 ⊢
            generalize wr.alloc _ = W3 at HST3 ⊢
            obtain ⟨x0, x1, x2, _⟩ := heap3 (HST3.out.pick [2] (by decide)).heap
            have HT := Aside0.mk (HST3.out.drew.call (fun F1 h1 => ltake_calls W3.drew F1 b { r with lm := lm } L1 n c.key true HS.out.ok HN.out (by have := HCK.out; unfold I64; omega) h1 HF.out.2))
            have HLEN2 := Aside0.mk (lkTake_len L1 n c.key true HF.out.2)
            have HSAME2 := Aside0.mk (lkTake_same L1 n c.key true)
            generalize lkTake L1 n c.key true = t at HT HSTEP HLEN2 HSAME2
            obtain ⟨L2, ec⟩ := t
            clear k0 k1 k2
            go_still_tail 6, (by kernel_rfl)
            go_wp2_with fail
            refine HT.out.mono ?_
            rintro e W4 ⟨l', ⟨lm2, rfl, rfl⟩, hst⟩
            have HST4 : Aside0 (St w F W4 [pt b ({ r with lm := lm2 } : Raw).obj, lockP lm2 L2, pt b9 c.box, wmapP r.wm (ptrs M), objsP kwP M]) := ⟨hst⟩
            clear hst x0 x1 x2
            by_cases hec : ec = 0
            · subst hec
              have HF2 : Aside0 (lkAll s.locks n l = lkAll L2 n (l.drop (k + 1)) ∧ L2.length ≤ 1000000) := ⟨HSTEP.out.1 (by trivial), HLEN2.out⟩
              go_wp2_with fail
              exact ⟨⟨k + 1, lm2, L2, by omega, by go_num, ⟨HST4.out.pick [0, 3, 4, 1] (by decide)⟩, HF2⟩, by simp [intOf]; omega⟩
            · have hne : (ec != 0) = true := bne_iff_ne.2 hec
              have hall : lkAll s.locks n l = (L1, ec) := HSTEP.out.2 hec
              have e1 : L2 = L1 := HSAME2.out hec
              subst e1
              have HALL := Aside0.mk hall
              have HEC := Aside0.mk hec
              have HD := Aside0.mk (St.call (l1 := [pt b ({ r with lm := lm2 } : Raw).obj, lockP lm2 L2]) (l2 := [wmapP r.wm (ptrs M), objsP kwP M]) (HST4.out.pick [0, 1, 3, 4] (by decide)) (fun F1 h1 => ldrop_calls W4 F1 b { r with lm := lm2 } L2 n HS.out.ok HN.out h1 HF.out.2))
              clear hec hall
              go_wp2_with fail
              refine HD.out.mono ?_
              rintro e W5 ⟨l', ⟨kk, rfl, rfl⟩, hst⟩
              have HST5 := Aside0.mk hst
              clear hst
              go_wp2_with fail
              go_ret
              rw [HX.out, HALL.out, if_pos HEC.out]
              exact (HST5.out.pick [0, 2, 3, 1] (by decide)).ret ⟨{ r with lm := lm2 }, M, rfl, ⟨HS.out.ok, HS.out.vals, HS.out.there, HS.out.works, lkDrop_len _ _ HF.out.2, HS.out.good⟩, rfl, rfl⟩
          · obtain rfl : k = m := by omega
            have hall : lkAll s.locks n l = (L1, 0) := by rw [HF.out.1, List.drop_eq_nil_of_le (by rw [HM.out]; exact Nat.le_refl _)]; rfl
            have HALL := Aside0.mk hall
            clear hall
            by_cases hk0 : k = 0
            · subst hk0
              have HNIL : Aside0 (l = []) := ⟨List.eq_nil_of_length_eq_zero HM.out.symm⟩
              go_wp2_with fail
              go_ret
              rw [HX.out, HALL.out, if_neg (by simp), if_pos HNIL.out]
              exact HST.out.ret ⟨{ r with lm := lm }, M, rfl, ⟨HS.out.ok, HS.out.vals, HS.out.there, HS.out.works, HF.out.2, HS.out.good⟩, rfl, rfl⟩
            · have HNIL : Aside0 (l ≠ []) := ⟨fun e => hk0 (by rw [HM.out, e]; rfl)⟩
              have hkpos : 0 < (k : Int) := by omega
              have HC := Aside0.mk (chClone_calls wr l A cp (HL.out wr HST.out.2) (by rw [← HM.out]; exact hmm))
              rw [← HM.out] at HC
              clear hk0
              go_wp2_with fail
              refine HC.out.mono ?_
              rintro e W5 ⟨v5, rfl, ho5, hn5, hb5⟩
              obtain ⟨A5, c5, rfl, _, _⟩ := row_form ho5
              have HST5 : Aside0 (St w F (W5.alloc (.cells #[.slice A5 l.length c5, .bool true] 130)) ([pt b ({ r with lm := lm } : Raw).obj, wmapP r.wm (ptrs M)] ++ [pt W5.heap.size (.cells #[.slice A5 l.length c5, .bool true] 130 (0, 0)), chRow (.slice A5 l.length c5) l, objsP kwP M, lockP lm L1])) := ⟨((HST.out.new_row hb5 ho5 hn5).alloc _).pick [2, 3, 0, 1, 4, 5] (by decide)⟩
              have HP := Aside0.mk (HST5.out.call (fun F1 h1 => kset_calls _ F1 b { r with lm := lm } (ptrs M) n W5.heap.size HS.out.ok HN.out h1))
              clear ho5 hn5 hb5
              go_wp2_with fail
              refine HP.out.mono ?_
              rintro e W6 ⟨l', ⟨wm, rfl, rfl⟩, hst⟩
              have HST6 := Aside0.mk hst
              clear hst
              go_wp2_with fail
              go_ret
              rw [HX.out, HALL.out, if_neg (by simp), if_neg HNIL.out]
              generalize W5.heap.size = q at HST6
              have h1 := Sep.kw_shut (HST6.out.pick [2, 3, 4, 0, 1, 5] (by decide)).1
              have h2 : St w F W6 [objsP kwP (put M n (q, ⟨l, true⟩)), pt b ({ r with lm := lm, wm := wm } : Raw).obj, wmapP wm (put (ptrs M) n q), lockP lm L1] := ⟨Sep.obj_new (M := M) h1 HKEY.out HLM.out, HST6.out.2⟩
              have hp : put (ptrs M) n q = ptrs (put M n (q, ⟨l, true⟩)) := put_map (fun y : Nat × KW => y.1) M n (q, ⟨l, true⟩)
              rw [hp] at h2
              refine (h2.pick [1, 2, 0, 3] (by decide)).ret ⟨{ r with lm := lm, wm := wm }, put M n (q, ⟨l, true⟩), rfl, ⟨HS.out.ok, HS.out.vals, HS.out.there, ?_, HF.out.2, ?_⟩, rfl, rfl⟩
              · show conts (put M n (q, ⟨l, true⟩)) = put s.works n ⟨l, true⟩
                rw [← HS.out.works]
                exact (put_map (fun y : Nat × KW => y.2) M n (q, ⟨l, true⟩)).symm
              · intro p hp
                rcases put_mem hp with rfl | ⟨hp, _⟩
                · exact HGOOD.out
                · exact HS.out.good p hp
end Go.Proofs.Ytobljkhidgbeoaa.Oct
/- The queue in memory; find, fit, decided, Next, puts, room. -/
namespace Go.Proofs.Ytobljkhidgbeoaa.Oct
open Go.RowKit Go.Proofs.YtobljkhidgbeoaaW.PrintWords Go.Proofs.Ytobljkhidgbeoaa.M
set_option linter.unusedVariables false
set_option linter.unusedSimpArgs false
theorem kvalue_calls (w : World) (b : Nat) (r : Raw) (hr : r.ok) (hb : w.heap[b]? = some r.obj) (k : Nat) (hk : k < 16) :
    Calls Try.prog 27 #[.pointer (some ⟨b, 0, none⟩), .int .i64 k] w fun e w' => e = .returned (.tuple #[.int .u64 (r.vals.getD k 0), .bool (r.there.getD k false)]) ∧ Below w.heap.size w w' := by
  obtain ⟨v0, _⟩ := cell_in hb (Raw.val hr hk)
  obtain ⟨v1, _⟩ := cell_in hb (Raw.has hr hk)
  have h1 : ¬ ((k : Int) < 0) := by omega
  have h2 : ¬ (16 ≤ (k : Int)) := by omega
  have h3 : (k : Int) < 16 := by omega
  clear hr hb
  go_enter Try.func27, Try.ntmps27
  go_wp2_with fail
  go_quiet (fail)
  go_wp2_with fail
  go_ret2
  exact ⟨rfl, below_drawN w nq⟩
def itemP (v : Value) (l : List QI) : Part := row 115 3 v l.length (qiCells l)
def qwP (q : Nat) (x : QW) : Part := exP fun lv => sepP [pt q (.cells #[.int .i64 x.n, lv, .bool x.prep] 135 (0, 0)), chRow lv x.list]
abbrev QM := List (Nat × QW)
def qPtrs (M : QM) : List Value := M.map fun m => evP m.1
def qObjs (M : QM) : Part := sepP (M.map fun m => qwP m.1 m.2)
def wrowP (v : Value) (M : QM) : Part := row 131 1 v M.length (qPtrs M)
/-- a queue's own parts -/
def quL (b : Nat) (r : Raw) (M : QM) (items : List QI) : List Part := [pt b r.obj, itemP r.iv items, wrowP r.wv M, qObjs M]
structure QuIs (r : Raw) (M : QM) (q : QU) : Prop where
  ok : r.ok
  works : M.map (·.2) = q.works
  given : r.given = q.given
/-- what no queue outgrows -/
structure QU.small (q : QU) : Prop where
  items : q.items.length ≤ 1000
  works : q.works.length ≤ 1000
  lists : ∀ x ∈ q.works, x.list.length ≤ 1000
  num : I64 q.given ∧ 0 ≤ q.given ∧ q.given ≤ 4611686018427387904
theorem Sep.qw_open {q : Nat} {x : QW} {l : List Part} {W : World} {F : Nat → Prop} (h : Sep (qwP q x :: l) W F) : ∃ lv, Sep (pt q (.cells #[.int .i64 x.n, lv, .bool x.prep] 135 (0, 0)) :: chRow lv x.list :: l) W F := by
  obtain ⟨lv, h⟩ := h.ex
  exact ⟨lv, h.flat⟩
theorem Sep.qw_shut {q : Nat} {n : Int} {lv : Value} {ch : List Ch} {p : Bool} {l : List Part} {W : World} {F : Nat → Prop} (h : Sep (pt q (.cells #[.int .i64 n, lv, .bool p] 135 (0, 0)) :: chRow lv ch :: l) W F) : Sep (qwP q ⟨n, ch, p⟩ :: l) W F :=
  Sep.of_ex lv (Sep.nest (l1 := [pt q (.cells #[.int .i64 n, lv, .bool p] 135 (0, 0)), chRow lv ch]) h)
theorem erase_perm {α : Type} : ∀ {l : List α} {i : Nat} (h : i < l.length), (l[i] :: l.eraseIdx i).Perm l
  | x :: l, 0, h => List.Perm.refl _
  | x :: l, i + 1, h => by
    have := erase_perm (l := l) (i := i) (by simpa using h)
    simp only [List.getElem_cons_succ, List.eraseIdx_cons_succ]
    exact (List.Perm.swap _ _ _).trans (this.cons x)
theorem Sep.q_take {M : QM} {i : Nat} {m : Nat × QW} {l : List Part} {W : World} {F : Nat → Prop} (h : Sep (qObjs M :: l) W F) (hi : M[i]? = some m) : Sep (qwP m.1 m.2 :: qObjs (M.eraseIdx i) :: l) W F := by
  obtain ⟨hl, he⟩ := List.getElem?_eq_some_iff.1 hi
  have hp : M.Perm (m :: M.eraseIdx i) := by
    rw [← he]
    exact (erase_perm hl).symm
  have h1 := h.flat.perm ((hp.map (fun m => qwP m.1 m.2)).append_right l)
  exact Sep.cons_imp h1 (fun G hg => hg.nest)
theorem Sep.q_put {M : QM} {i : Nat} {m : Nat × QW} {l : List Part} {W : World} {F : Nat → Prop} (h : Sep (qwP m.1 m.2 :: qObjs (M.eraseIdx i) :: l) W F) (hi : i < M.length) : Sep (qObjs (M.set i m) :: l) W F := by
  have hp : (m :: M.eraseIdx i).Perm (M.set i m) := by
    have h1 : i < (M.set i m).length := by simpa using hi
    have h2 := erase_perm h1
    rw [List.eraseIdx_set_eq] at h2
    simpa using h2
  have h1 : Sep ((m :: M.eraseIdx i).map (fun m => qwP m.1 m.2) ++ l) W F := Sep.cons_imp h (fun G hg => hg.flat)
  exact (h1.perm ((hp.map (fun m => qwP m.1 m.2)).append_right l)).nest
theorem Sep.q_new {M : QM} {m : Nat × QW} {l : List Part} {W : World} {F : Nat → Prop} (h : Sep (qwP m.1 m.2 :: qObjs M :: l) W F) : Sep (qObjs (M ++ [m]) :: l) W F := by
  have h1 : Sep ((m :: M).map (fun m => qwP m.1 m.2) ++ l) W F := Sep.cons_imp h (fun G hg => hg.flat)
  exact (h1.perm (((List.perm_append_singleton m M).symm.map (fun m => qwP m.1 m.2)).append_right l)).nest
theorem Sep.q_sub {M M' : QM} {l : List Part} {W : World} {F : Nat → Prop} (h : Sep (qObjs M :: l) W F) (hs : List.Sublist M' M) : Sep (qObjs M' :: l) W F :=
  (h.flat.sub ((hs.map _).append_right l)).nest
/-- the row of pointers, read -/
def PtAt (W : World) (A : Option Addr) (ps : List Nat) : Prop := ∀ k, k < ps.length → ∃ ad, A = some ad ∧ W.cell? (ad.add k) = some (evP (ps.getD k 0))
theorem PtAt.move {W W' : World} {A : Option Addr} {l : List Nat} (h : PtAt W A l) (hb : ∀ ad, A = some ad → ad.block < W.heap.size → W'.heap[ad.block]? = W.heap[ad.block]?) : PtAt W' A l := fun k hk => by
  obtain ⟨ad, e, h0⟩ := h k hk
  have hbk : (ad.add k).block = ad.block := by unfold Addr.add; split <;> rfl
  have hlt := World.block_lt_of_cell? W _ h0
  rw [hbk] at hlt
  exact ⟨ad, e, by rw [← h0]; exact World.cell?_of_block (by rw [hbk]; exact hb ad e hlt)⟩
theorem PtAt.below {W W' : World} {A : Option Addr} {l : List Nat} (h : PtAt W A l) (hb : Below W.heap.size W W') : PtAt W' A l := h.move (fun ad _ hl => hb.block _ hl)
theorem prow_form {t : TypeId} {v : Value} {ps : List Nat} {n : Nat} {W : World} {F : Nat → Prop} (h : (row t 1 v n (ps.map evP)).P W F) (hn : n = ps.length) : ∃ A c, v = .slice A n c ∧ n ≤ c ∧ c ≤ maxLen ∧ PtAt W A ps := by
  subst hn
  have h0 := h.1
  obtain ⟨A, c, rfl, h1, h2⟩ := row_form h0
  refine ⟨A, c, rfl, h1, h2, fun k hk => ?_⟩
  obtain ⟨ad, e, k0⟩ := OwnAt.cell h0 (j := k) (u := evP (ps.getD k 0)) (by rw [List.getElem?_map, List.getElem?_eq_getElem hk]; simp [List.getD_eq_getElem?_getD, List.getElem?_eq_getElem hk])
  exact ⟨ad, e, k0⟩
theorem wrow_form {v : Value} {M : QM} {W : World} {F : Nat → Prop} (h : (wrowP v M).P W F) : ∃ A c, v = .slice A M.length c ∧ M.length ≤ c ∧ c ≤ maxLen ∧ PtAt W A (M.map (·.1)) := by
  have e : qPtrs M = (M.map (·.1)).map evP := by unfold qPtrs; rw [List.map_map]; rfl
  unfold wrowP at h
  rw [e] at h
  exact prow_form h (by simp)
/-- the place of a work -/
def qFind (l : List QW) (n : Int) : Option Nat := l.findIdx? fun x => x.n == n
theorem find_none {q : QU} {n : Int} (h : qFind q.works n = none) : q.find n = none := by
  unfold qFind at h
  rw [List.findIdx?_eq_none_iff] at h
  unfold QU.find
  rw [List.find?_eq_none]
  intro x hx
  simpa using h x hx
theorem find_some {q : QU} {n : Int} {i : Nat} (h : qFind q.works n = some i) : ∃ x, q.works[i]? = some x ∧ x.n = n ∧ q.find n = some x := by
  unfold qFind at h
  obtain ⟨hl, h1, h2⟩ := List.findIdx?_eq_some_iff_getElem.1 h
  refine ⟨q.works[i], List.getElem?_eq_getElem hl, by simpa using h1, ?_⟩
  unfold QU.find
  rw [List.find?_eq_some_iff_getElem]
  exact ⟨h1, i, hl, rfl, fun j hj => by have := h2 j hj; simpa using this⟩
/-- what find tells -/
def fVal (M : QM) (n : Int) : Value := match qFind (M.map (·.2)) n with
  | some i => evP (M.getD i (0, ⟨0, [], false⟩)).1
  | none => .pointer none
theorem qw_cell {W : World} {F : Nat → Prop} {M : QM} {l : List Part} (h : Sep (qObjs M :: l) W F) {k : Nat} {m : Nat × QW} (hk : M[k]? = some m) : ∃ lv, W.heap[m.1]? = some (.cells #[.int .i64 m.2.n, lv, .bool m.2.prep] 135 (0, 0)) := by
  obtain ⟨lv, h1⟩ := (h.q_take hk).qw_open
  exact ⟨lv, h1.heap.1⟩
set_option maxHeartbeats 2000000 in
theorem qfind_calls (w : World) (F : Nat → Prop) (b : Nat) (r : Raw) (M : QM) (items : List QI) (n : Int) (hr : r.ok) (h : Sep (quL b r M items) w F) (hM : M.length ≤ 1000) :
    Calls Try.prog 66 #[.pointer (some ⟨b, 34, none⟩), .int .i64 n] w fun e w' => e = .returned (fVal M n) ∧ w' = w := by
  have HQ := Aside0.mk ((h.pick [3, 0] (by decide)))
  obtain ⟨A, c, e, hc1, hc2, hat⟩ := wrow_form (h.pick [2] (by decide)).one
  have c35 := (Raw.facts hr h.heap.1).2.2.2.1
  rw [e] at c35
  have HAT := Aside0.mk hat
  obtain ⟨m, hm⟩ : ∃ m, m = M.length := ⟨_, rfl⟩
  rw [← hm] at c35
  have HM := Aside0.mk hm
  have hm2 : m ≤ 1000 := by omega
  clear h hr hM e hc1 hc2 hat hm
  go_enter Try.func66, Try.ntmps66
  go_wp2_with fail
  go_loopw [6, 12] (fun _ v12 wr => ∃ k : Nat, k ≤ m ∧ v12 = .int .i64 k ∧ wr = w ∧ Aside0 (∀ j, j < k → ((M.getD j (0, ⟨0, [], false⟩)).2.n == n) = false)) (fun _ v _ => m - (intOf v).toNat)
  case atStart => exact ⟨0, by omega, rfl, rfl, ⟨fun j hj => by omega⟩⟩
  case round =>
    obtain ⟨k, hk, rfl, rfl, HS⟩ := hrel
    by_cases hlt : k < m
    · have hlt' : (k : Int) < (m : Int) := by omega
      have hkl : k < M.length := by rw [← HM.out]; exact hlt
      obtain ⟨ad, rfl, k0⟩ := HAT.out k (by simpa using hkl)
      obtain ⟨x, hx⟩ : ∃ x, x = M.getD k (0, ⟨0, [], false⟩) := ⟨_, rfl⟩
      have hk0 : M[k]? = some x := by rw [hx, List.getD_eq_getElem?_getD, List.getElem?_eq_getElem hkl]; rfl
      have hk1 : (M.map (·.1)).getD k 0 = x.1 := by rw [List.getD_eq_getElem?_getD, List.getElem?_map, hk0]; rfl
      rw [hk1] at k0
      simp only [evP] at k0
      obtain ⟨lv, hh⟩ := qw_cell HQ.out hk0
      obtain ⟨x0, _⟩ := heap3 hh
      have HX := Aside0.mk hx
      clear hx hk0 hk1 hh
      cases hd : (x.2.n == n) with
      | true =>
        have HE : Aside0 (fVal M n = evP x.1) := ⟨by
          unfold fVal
          have : qFind (M.map (·.2)) n = some k := by
            unfold qFind
            rw [List.findIdx?_eq_some_iff_getElem]
            refine ⟨by simpa using hkl, by rw [HX.out, List.getD_eq_getElem?_getD, List.getElem?_eq_getElem hkl] at hd; simpa using hd, fun j hj => ?_⟩
            have := HS.out j hj
            rw [List.getD_eq_getElem?_getD, List.getElem?_eq_getElem (Nat.lt_trans hj hkl)] at this
            simpa using this
          rw [this, HX.out]⟩
        go_wp2_with fail
        go_ret
        rw [HE.out]
        exact ⟨rfl, rfl⟩
      | false =>
        have HS2 : Aside0 (∀ j, j < k + 1 → ((M.getD j (0, ⟨0, [], false⟩)).2.n == n) = false) := ⟨fun j hj => by
          by_cases hjk : j = k
          · rw [hjk, ← HX.out]; exact hd
          · exact HS.out j (by omega)⟩
        go_wp2_with fail
        exact ⟨⟨k + 1, by omega, by go_num, trivial, HS2⟩, by simp [intOf]; omega⟩
    · obtain rfl : k = m := by omega
      have HE : Aside0 (fVal M n = .pointer none) := ⟨by
        unfold fVal
        have : qFind (M.map (·.2)) n = none := by
          unfold qFind
          rw [List.findIdx?_eq_none_iff]
          intro x hx
          obtain ⟨y, hy, rfl⟩ := List.mem_map.1 hx
          obtain ⟨j, hj, rfl⟩ := List.getElem_of_mem hy
          have := HS.out j (by rw [HM.out]; exact hj)
          rw [List.getD_eq_getElem?_getD, List.getElem?_eq_getElem hj] at this
          simpa using this
        rw [this]⟩
      go_wp2_with fail
      go_ret
      rw [HE.out]
      exact ⟨rfl, rfl⟩
end Go.Proofs.Ytobljkhidgbeoaa.Oct
