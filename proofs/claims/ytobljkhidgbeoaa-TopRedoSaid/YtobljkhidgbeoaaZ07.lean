
import Derived.Test.YtobljkhidgbeoaaZ06
/- The table of locks: Drop. -/
namespace Go.Proofs.Ytobljkhidgbeoaa.Oct
open Go.RowKit Go.Proofs.YtobljkhidgbeoaaW.PrintWords Go.Proofs.Ytobljkhidgbeoaa.M
open Go.ChangeMaps (setBlock)
set_option linter.unusedVariables false
set_option linter.unusedSimpArgs false
def ownerOf (v : Value) : Int := match v with
  | Value.agg cs => (match (cs[1]? : Option Value) with | some (Value.int _ o) => o | _ => 0)
  | _ => 0
theorem owner_ek (p : Int × Int) : ownerOf (ekL p) = p.2 := rfl
theorem Ents.filter {es : List MapEntry} {L : Locks} (h : Ents ekL evB goodL es L) (owner : Int) : Ents ekL evB goodL (es.filter fun e => ownerOf e.key != owner) (lkDrop L owner) := by
  refine ⟨?_, fun p hp => h.2.1 p (List.mem_filter.1 hp).1, h.2.2.sublist (List.filter_sublist.map _)⟩
  have h1 : (es.filter fun e => ownerOf e.key != owner).map (fun e => (e.key, e.val)) = (es.map (fun e => (e.key, e.val))).filter (fun x => ownerOf x.1 != owner) := by rw [List.filter_map]; rfl
  have h2 : (lkDrop L owner).map (fun p => (ekL p.1, evB p.2)) = (L.map (fun p => (ekL p.1, evB p.2))).filter (fun x => ownerOf x.1 != owner) := by rw [List.filter_map]; rfl
  rw [h1, h2, h.1]
theorem Ents.sub {es es' : List MapEntry} {L : Locks} (h : Ents ekL evB goodL es L) (hs : List.Sublist es' es) : ∃ L', Ents ekL evB goodL es' L' := by
  obtain ⟨h1, h2, h3⟩ := h
  have hm := hs.map (fun e => (e.key, e.val))
  rw [h1] at hm
  obtain ⟨L', hL, e⟩ := List.sublist_map_iff.1 hm
  exact ⟨L', e, fun p hp => h2 p (hL.subset hp), h3.sublist (hL.map _)⟩
/-- delete of an entry that stands there -/
theorem delete_raw {W : World} {m : Nat} {es : Array MapEntry} {clk : Nat} {L : Locks} {F : Nat → Prop} (h : (pt m (.map es clk)).P W F) (hok : MapOk es clk) (hen : Ents ekL evB goodL es.toList L) {e : MapEntry} (he : e ∈ es.toList) (ty : TypeId) :
    ∃ es', (Builtin.delete_ #[75, 147] ty #[.map (some m), e.key]).run Try.prog W = .ok (.tuple #[]) (setBlock W m (.map es' clk)) ∧ es'.toList = es.toList.filter (fun x => x.born != e.born) := by
  obtain ⟨p0, hp0, ek0, _, hg⟩ := hen.mem he
  rw [ek0]
  rcases keyL.find W hg es.toList (fun y hy => by obtain ⟨p, _, e1, _, hg⟩ := hen.mem hy; exact ⟨p.1, hg, e1⟩) with ⟨h1, h2⟩ | ⟨j, e0, h1, h2, h3⟩
  · exact absurd ek0 (h2 e he)
  · obtain ⟨i, hi, hie⟩ := List.getElem_of_mem he
    have hi' : es.toList[i]? = some e := by rw [List.getElem?_eq_getElem hi, hie]
    obtain ⟨p, hp, e1, _⟩ := hen.get h2
    obtain ⟨q, hq, e2, _⟩ := hen.get hi'
    have hpq : p.1 = q.1 := keyL.inj (hen.2.1 p (List.mem_of_getElem? hp)) (hen.2.1 q (List.mem_of_getElem? hq)) (by rw [← e1, h3, ← ek0, e2])
    have hji : j = i := nodup_at hen.2.2 hp hq hpq
    subst hji
    rw [hi'] at h2
    injection h2 with h2
    subst h2
    have hjs : j < es.size := by simpa using hi
    have hsub : (es.eraseIdxIfInBounds j).toList = es.toList.eraseIdx j := by
      unfold Array.eraseIdxIfInBounds
      rw [dif_pos hjs]
      simp
    refine ⟨es.eraseIdxIfInBounds j, ?_, ?_⟩
    · simp [Builtin.delete_, run_underlying Try.underlying75, MapKept.run_getObj_map h.2, keyL.check W _ hg, h1, MapKept.run_setObj_map _ h.2, Result.andThen, setBlock]
    · have := ChangeMaps.filter_eq_eraseIdx (fun q : MapEntry => q.born == e.born) es.toList j e hi' (by simp) (by
        have := hok.once
        rw [List.nodup_iff_pairwise_ne, List.pairwise_map] at this
        refine this.imp ?_
        intro a b hab ⟨h1, h2⟩
        simp at h1 h2
        exact hab (h1.trans h2.symm))
      rw [hsub, ← this]
      rfl
def LdRet (W : World) (F : Nat → Prop) (b : Nat) (r : Raw) (L : Locks) : Ending → World → Prop := Ret W F (fun e l' => ∃ k : Int, e = .returned (.tuple #[.int .i64 k, .int .i64 0]) ∧ l' = [pt b r.obj, lockP r.lm L])
theorem seen_push (seen : Array Nat) (x y : Nat) : (seen.push x).contains y = (seen.contains y || (y == x)) := by
  rw [Bool.eq_iff_iff]
  simp
set_option maxRecDepth 100000 in
set_option maxHeartbeats 4000000 in
theorem ldrop_some (w : World) (F : Nat → Prop) (b : Nat) (r : Raw) (L : Locks) (owner : Int) (hr : r.ok) (ho : I64 owner) (h : Sep [pt b r.obj, lockP r.lm L] w F) (m : Nat) (hm : r.lm = .map (some m)) (hll : L.length ≤ 1000000) :
    Calls Try.prog 61 #[.pointer (some ⟨b, 33, none⟩), .int .i64 owner] w (LdRet w F b r (lkDrop L owner)) := by
  rcases ((St.start h).pick [1, 0] (by decide)).map_open with ⟨e1, _⟩ | ⟨m', es, clk, e1, hok, hen, hst⟩
  · rw [hm] at e1; cases e1
  rw [hm] at e1
  injection e1 with e1
  injection e1 with e1
  subst e1
  have hel : es.size = L.length := by
    have := congrArg List.length hen.1
    simpa using this
  have HR := Aside0.mk hr
  have HE := Aside0.mk hm
  have HOK := Aside0.mk hok
  have HEN := Aside0.mk hen
  have HST1 : Aside0 (St w F w [pt b r.obj, pt m (.map es clk)]) := ⟨hst.pick [1, 0] (by decide)⟩
  have c33 := (Raw.facts HR.out HST1.out.heap).2.1
  rw [HE.out] at c33
  have hrg := run_range_map (P := Try.prog) w 75 _ _ m es clk Try.underlying75 (HST1.out.1.tail).heap.1
  have hsz : es.size ≤ 1000000 := by omega
  clear hr ho h hm hok hen hst hel hll
  go_enter Try.func61, Try.ntmps61
  go_wp2_with fail
  have HST5 := Aside0.mk (HST1.out.alloc (.mapIter (some m) clk #[] clk))
  generalize w.heap.size = r0 at HST5 ⊢
  generalize w.alloc _ = W5 at HST5 ⊢
  clear c33 hrg HST1
  go_loopw [6, 7] (fun v6 _ wr => ∃ (seen : Array Nat) (c : Nat) (es' : Array MapEntry) (n : Nat), clk ≤ c ∧ v6 = .int .i64 n ∧ n ≤ 1000000 ∧ Aside0 (n + es'.size = es.size) ∧ Aside0 (St w F wr [pt r0 (.mapIter (some m) clk seen c), pt m (.map es' clk), pt b r.obj]) ∧ Aside0 (es'.toList = es.toList.filter fun e => !(seen.contains e.born && ownerOf e.key == owner))) (fun _ _ wr => (leftOf es (wr.iterSeen r0)).size)
  case atStart => exact ⟨#[], clk, es, 0, Nat.le_refl _, rfl, by omega, ⟨by omega⟩, ⟨HST5.out.pick [0, 2, 1] (by decide)⟩, ⟨(List.filter_eq_self.2 (fun e _ => by simp)).symm⟩⟩
  case round =>
    obtain ⟨seen, c, es', n, hc, rfl, hn, HN, HS, HD⟩ := hrel
    have HSUB : Aside0 (∀ e ∈ es'.toList, e ∈ es.toList) := ⟨fun e he => by rw [HD.out] at he; exact (List.mem_filter.1 he).1⟩
    have HOK' : Aside0 (MapOk es' clk) := ⟨fun e he => HOK.out.born e (HSUB.out e he), by rw [HD.out]; exact HOK.out.once.sublist (List.filter_sublist.map _)⟩
    rcases HS.out.next (P := Try.prog) HOK'.out.born hc HOK'.out.once 0 with ⟨h0, hrun⟩ | ⟨e, W6, he, hse, hrun, hen, hst⟩
    · have hfin : es'.toList = es.toList.filter fun e => ownerOf e.key != owner := by
        have hall := left_none h0
        rw [HD.out]
        apply List.filter_congr
        intro e he
        by_cases ho : ownerOf e.key = owner
        · cases hs : seen.contains e.born with
          | true => simp [ho]
          | false =>
            exfalso
            have := hall e (by rw [HD.out]; exact List.mem_filter.2 ⟨he, by rw [hs]; rfl⟩)
            rw [hs] at this
            cases this
        · have hob : (ownerOf e.key == owner) = false := beq_eq_false_iff_ne.2 ho
          simp [hob, bne]
      have HST6 : Aside0 (St w F wr [pt b r.obj, lockP r.lm (lkDrop L owner)]) := ⟨by
        rw [HE.out]
        have := St.map_shut (HS.out.pick [1, 2] (by decide)) HOK'.out (L := lkDrop L owner) (ek := ekL) (ev := evB) (good := goodL) (by rw [hfin]; exact HEN.out.filter owner)
        exact this.pick [1, 0] (by decide)⟩
      clear h0 hfin HS HD HOK' HSUB
      go_wp2_with fail
      go_ret2
      exact HST6.out.ret ⟨_, rfl, rfl⟩
    · obtain ⟨⟨⟨kk, oo⟩, a⟩, hp, ek, ev, hg⟩ := HEN.out.mem (HSUB.out e he)
      have HEK := Aside0.mk ek
      have HEE := Aside0.mk he
      have HSE := Aside0.mk hse
      have HEO : Aside0 (ownerOf e.key = oo) := ⟨by rw [ek]; rfl⟩
      rw [ek, ev] at hrun hen
      simp only [ekL, evB] at hrun hen
      have HST7 : Aside0 (St w F (W6.alloc (.cells #[.int .i64 kk, .int .i64 oo] 147)) [pt r0 (.mapIter (some m) clk (seen.push e.born) clk), pt m (.map es' clk), pt b r.obj, pt W6.heap.size (.cells #[.int .i64 kk, .int .i64 oo] 147 (0, 0))]) := ⟨(hst.alloc _).pick [1, 2, 3, 0] (by decide)⟩
      have HLT : Aside0 (∀ W l, St w F W (pt r0 (.mapIter (some m) clk (seen.push e.born) clk) :: l) → (leftOf es (W.iterSeen r0)).size < (leftOf es (wr.iterSeen r0)).size) := ⟨fun W l hst => by
        have e1 : W.iterSeen r0 = seen.push e.born := by unfold World.iterSeen; rw [hst.heap]
        have e2 : wr.iterSeen r0 = seen := by unfold World.iterSeen; rw [HS.out.heap]
        rw [e1, e2]
        exact left_lt (HSUB.out e HEE.out) HSE.out⟩
      clear hst he hse hp ek ev hg
      by_cases hoo : oo = owner
      · subst hoo
        have hob : (oo == oo) = true := beq_self_eq_true oo
        go_wp2_with fail
        generalize W6.heap.size = b7 at HST7 ⊢
        generalize W6.alloc _ = W7 at HST7 ⊢
        have c33 := (Raw.facts HR.out (HST7.out.pick [2] (by decide)).heap).2.1
        rw [HE.out] at c33
        obtain ⟨x0, x1, _, _⟩ := heap2 (HST7.out.pick [3] (by decide)).heap
        obtain ⟨L', hL'⟩ := Ents.sub HEN.out (es' := es'.toList) (by rw [HD.out]; exact List.filter_sublist)
        have hpm : (pt m (.map es' clk)).P W7.drew (New w F) := (HST7.out.drew.pick [1] (by decide)).1.one
        obtain ⟨es2, hdel, hes2⟩ := delete_raw hpm HOK'.out hL' HEE.out 0
        rw [HEK.out] at hdel
        simp only [ekL] at hdel
        have hml := (Array.getElem?_eq_some_iff.1 hpm.2).1
        have HST8 : Aside0 (St w F (setBlock W7.drew m (.map es2 clk)) [pt r0 (.mapIter (some m) clk (seen.push e.born) clk), pt m (.map es2 clk), pt b r.obj]) := ⟨by
          have h0 := (HST7.out.drew.pick [1, 0, 2] (by decide)).turn (B := pt m (.map es2 clk)) (W' := setBlock W7.drew m (.map es2 clk)) (fun F1 hp => ⟨⟨.inl hp.1, (setBlock_heap hml).1⟩, kp_setBlock hml hp.1⟩)
          exact h0.pick [1, 0, 2] (by decide)⟩
        have HD2 : Aside0 (es2.toList = es.toList.filter fun x => !((seen.push e.born).contains x.born && ownerOf x.key == oo)) := ⟨by
          rw [hes2, HD.out, List.filter_filter]
          apply List.filter_congr
          intro x hx
          rw [seen_push]
          by_cases hb : x.born = e.born
          · have hxe : x = e := by
              have h1 := find_born e es.toList HOK.out.once (HSUB.out e HEE.out)
              have h2 := find_born x es.toList HOK.out.once hx
              rw [hb, h1] at h2
              injection h2 with h2
              exact h2.symm
            rw [hxe, HEO.out, hob]
            simp
          · have : (x.born == e.born) = false := beq_eq_false_iff_ne.2 hb
            simp only [bne, this, Bool.or_false, Bool.not_false, Bool.true_and]⟩
        have HN2 : Aside0 (n + 1 + es2.size = es.size) := ⟨by
          have h1 : es2.size + 1 = es'.size := by
            have h2 := ChangeMaps.filter_eq_eraseIdx (fun q : MapEntry => q.born == e.born) es'.toList
            obtain ⟨i, hi, hie⟩ := List.getElem_of_mem HEE.out
            have h3 := h2 i e (by rw [List.getElem?_eq_getElem hi, hie]) (by simp) (by
              have := HOK'.out.once
              rw [List.nodup_iff_pairwise_ne, List.pairwise_map] at this
              refine this.imp ?_
              intro a b hab ⟨h1, h2⟩
              simp at h1 h2
              exact hab (h1.trans h2.symm))
            have h4 : es2.toList = es'.toList.eraseIdx i := by rw [hes2, ← h3]; rfl
            have h5 := congrArg List.length h4
            rw [List.length_eraseIdx, if_pos hi] at h5
            simp at h5 hi
            omega
          have := HN.out
          omega⟩
        have hn1 : n + 1 ≤ 1000000 := by have := HN2.out; omega
        generalize setBlock W7.drew m _ = W8 at HST8 hdel
        clear hpm hes2 hml hL'
        go_still_tail 5, (by kernel_rfl)
        go_wp2_with fail
        exact ⟨⟨seen.push e.born, clk, es2, n + 1, Nat.le_refl _, by go_num, hn1, HN2, ⟨HST8.out⟩, HD2⟩, HLT.out _ _ HST8.out⟩
      · have hob : (oo == owner) = false := beq_eq_false_iff_ne.2 hoo
        have HD2 : Aside0 (es'.toList = es.toList.filter fun x => !((seen.push e.born).contains x.born && ownerOf x.key == owner)) := ⟨by
          rw [HD.out]
          apply List.filter_congr
          intro x hx
          rw [seen_push]
          by_cases hb : x.born = e.born
          · have hxe : x = e := by
              have h1 := find_born e es.toList HOK.out.once (HSUB.out e HEE.out)
              have h2 := find_born x es.toList HOK.out.once hx
              rw [hb, h1] at h2
              injection h2 with h2
              exact h2.symm
            rw [hxe, HEO.out, hob]
            simp
          · have : (x.born == e.born) = false := beq_eq_false_iff_ne.2 hb
            rw [this, Bool.or_false]⟩
        go_wp2_with fail
        exact ⟨⟨seen.push e.born, clk, es', n, Nat.le_refl _, rfl, hn, HN, ⟨HST7.out.pick [0, 1, 2] (by decide)⟩, HD2⟩, HLT.out _ _ HST7.out⟩
set_option maxRecDepth 100000 in
theorem ldrop_none (w : World) (F : Nat → Prop) (b : Nat) (r : Raw) (owner : Int) (hr : r.ok) (h : Sep [pt b r.obj, lockP r.lm []] w F) (hm : r.lm = .map none) :
    Calls Try.prog 61 #[.pointer (some ⟨b, 33, none⟩), .int .i64 owner] w (LdRet w F b r []) := by
  have HST0 := Aside0.mk (St.start h)
  have c33 := (Raw.facts hr h.heap.1).2.1
  rw [hm] at c33
  have hrg := run_range_nilMap (P := Try.prog) w 75 _ _ Try.underlying75
  clear h hr hm
  go_enter Try.func61, Try.ntmps61
  go_wp2_with fail
  have HST5 := Aside0.mk (HST0.out.alloc (.mapIter none 0 #[] 0))
  generalize w.heap.size = r0 at HST5 ⊢
  generalize w.alloc _ = W5 at HST5 ⊢
  clear c33 hrg
  go_loopw [6, 7] (fun v6 _ wr => v6 = .int .i64 0 ∧ wr = W5) (fun _ _ wr => 0)
  case atStart => exact ⟨rfl, rfl⟩
  case round =>
    obtain ⟨rfl, rfl⟩ := hrel
    have hrun := run_next_none (P := Try.prog) HST5.out.heap 0
    go_wp2_with fail
    go_ret2
    exact (HST5.out.pick [1, 2] (by decide)).ret ⟨_, rfl, rfl⟩
theorem ldrop_calls (w : World) (F : Nat → Prop) (b : Nat) (r : Raw) (L : Locks) (owner : Int) (hr : r.ok) (ho : I64 owner) (h : Sep [pt b r.obj, lockP r.lm L] w F) (hll : L.length ≤ 1000000) :
    Calls Try.prog 61 #[.pointer (some ⟨b, 33, none⟩), .int .i64 owner] w (LdRet w F b r (lkDrop L owner)) := by
  rcases (h.pick [1, 0] (by decide)).map_open with ⟨e, rfl⟩ | ⟨m, _, _, e, _⟩
  · exact ldrop_none w F b r owner hr h e
  · exact ldrop_some w F b r L owner hr ho h m e hll
end Go.Proofs.Ytobljkhidgbeoaa.Oct
/- MAPS OF POINTERS, rows of pointers: what they point to is the parts' own. -/
namespace Go.Proofs.Ytobljkhidgbeoaa.Oct
open Go.RowKit Go.Proofs.YtobljkhidgbeoaaW.PrintWords Go.Proofs.Ytobljkhidgbeoaa.M
set_option linter.unusedVariables false
set_option linter.unusedSimpArgs false
theorem Sep.cons_imp {A : Part} {l l' : List Part} {W : World} {F : Nat → Prop} (h : Sep (A :: l) W F) (hl : ∀ G, Sep l W G → Sep l' W G) : Sep (A :: l') W F := by
  obtain ⟨F1, F2, hd, e1, e2, h1, h2⟩ := Sep.split (l1 := [A]) h
  exact Sep.join (l1 := [A]) h1 (hl _ h2) (fun k _ => hd k) (fun k _ hk => (e1 k hk).1) (fun k _ hk => (e2 k hk).1)
theorem Sep.app_imp {l1 l l' : List Part} {W : World} {F : Nat → Prop} (h : Sep (l1 ++ l) W F) (hl : ∀ G, Sep l W G → Sep l' W G) : Sep (l1 ++ l') W F := by
  obtain ⟨F1, F2, hd, e1, e2, h1, h2⟩ := Sep.split h
  exact Sep.join h1 (hl _ h2) (fun k _ => hd k) (fun k _ hk => (e1 k hk).1) (fun k _ hk => (e2 k hk).1)
theorem Sep.perm {l l' : List Part} (hp : l.Perm l') : ∀ {W : World} {F : Nat → Prop}, Sep l W F → Sep l' W F := by
  induction hp with
  | nil => intro W F h; exact h
  | cons x _ ih => intro W F h; exact h.cons_imp (fun G hg => ih hg)
  | swap x y l =>
    intro W F h
    obtain ⟨F1, F2, hd, e1, e2, h1, h2⟩ := Sep.split (l1 := [y, x]) h
    exact Sep.join (l1 := [x, y]) (h1.pick [1, 0] (by decide)) h2 (fun k _ => hd k) (fun k _ hk => (e1 k hk).1) (fun k _ hk => (e2 k hk).1)
  | trans _ _ ih1 ih2 => intro W F h; exact ih2 (ih1 h)
theorem Sep.sub {l l' : List Part} (hp : List.Sublist l' l) : ∀ {W : World} {F : Nat → Prop}, Sep l W F → Sep l' W F := by
  induction hp with
  | slnil => intro W F h; exact h
  | cons x _ ih => intro W F h; exact ih h.tail
  | cons_cons x _ ih => intro W F h; exact h.cons_imp (fun G hg => ih hg)
theorem St.imp {A : List Part} {B : List Part} {w W : World} {F : Nat → Prop} {l : List Part} (h : St w F W (A ++ l)) (hab : ∀ G, Sep A W G → Sep B W G) : St w F W (B ++ l) := by
  refine ⟨?_, h.2⟩
  obtain ⟨F1, F2, hd, e1, e2, h1, h2⟩ := Sep.split h.1
  exact Sep.join (hab _ h1) h2 (fun k _ => hd k) (fun k _ hk => (e1 k hk).1) (fun k _ hk => (e2 k hk).1)
theorem St.perm {w W : World} {F : Nat → Prop} {l l' : List Part} (h : St w F W l) (hp : l.Perm l') : St w F W l' := ⟨h.1.perm hp, h.2⟩
theorem St.tail {A : Part} {w W : World} {F : Nat → Prop} {l : List Part} (h : St w F W (A :: l)) : St w F W l := ⟨h.1.tail, h.2⟩
/-- what the pointers of a map lead to -/
def objsP {κ α : Type} (obj : Nat → α → Part) (M : List (κ × (Nat × α))) : Part := sepP (M.map fun m => obj m.2.1 m.2.2)
def ptrs {κ α : Type} (M : List (κ × (Nat × α))) : List (κ × Nat) := M.map fun m => (m.1, m.2.1)
def conts {κ α : Type} (M : List (κ × (Nat × α))) : List (κ × α) := M.map fun m => (m.1, m.2.2)
theorem ptrs_keys {κ α : Type} (M : List (κ × (Nat × α))) : (ptrs M).map (·.1) = M.map (·.1) := by unfold ptrs; rw [List.map_map]; rfl
section
variable {κ α : Type} [DecidableEq κ]
theorem dele_none {L : List (κ × α)} {k : κ} (h : look L k = none) : dele L k = L := List.filter_eq_self.2 (fun p hp => by simpa using look_none.1 h p hp)
theorem put_perm (L : List (κ × α)) (k : κ) (x : α) (hn : (L.map (·.1)).Nodup) : (put L k x).Perm ((k, x) :: dele L k) := by
  unfold put
  split
  · rename_i h
    induction L with
    | nil => simp [look] at h
    | cons p L ih =>
      obtain ⟨h1, h2⟩ := List.nodup_cons.1 hn
      by_cases hp : p.1 = k
      · have hL : ∀ q ∈ L, q.1 ≠ k := fun q hq e => h1 (by show p.1 ∈ _; rw [hp, ← e]; exact List.mem_map.2 ⟨q, hq, rfl⟩)
        have e1 : L.map (fun p => if p.1 = k then (p.1, x) else p) = L := by
          rw [List.map_congr_left (g := id) (fun q hq => by rw [if_neg (hL q hq)]; rfl)]
          simp
        have e2 : dele (p :: L) k = L := by
          unfold dele
          rw [List.filter_cons, if_neg (by simp [hp])]
          exact List.filter_eq_self.2 (fun q hq => by simpa using hL q hq)
        rw [e2, List.map_cons, if_pos hp, e1, hp]
      · have e2 : dele (p :: L) k = p :: dele L k := by
          unfold dele
          rw [List.filter_cons, if_pos (by simpa using hp)]
        have hl : (look L k).isSome = true := by
          unfold look at h ⊢
          rw [List.find?_cons] at h
          simp only [hp, decide_false] at h
          exact h
        rw [e2, List.map_cons, if_neg hp]
        exact ((ih h2 hl).cons p).trans (List.Perm.swap _ _ _)
  · rename_i h
    have hno : look L k = none := by cases hl : look L k with | none => rfl | some y => rw [hl] at h; exact absurd rfl h
    rw [dele_none hno]
    exact List.perm_append_singleton _ _
theorem look_perm {L : List (κ × α)} {k : κ} {x : α} (hn : (L.map (·.1)).Nodup) (h : look L k = some x) : L.Perm ((k, x) :: dele L k) := by
  have e : put L k x = L := by
    unfold put
    rw [h]
    simp only [Option.isSome_some, if_true]
    rw [List.map_congr_left (g := id) (fun q hq => ?_)]
    · simp
    · split
      · rename_i e
        have := look_of_mem hn (k := q.1) (x := q.2) hq
        rw [e, h] at this
        injection this with this
        exact Prod.ext rfl this
      · rfl
  have := put_perm L k x hn
  rw [e] at this
  exact this
theorem look_map {β : Type} (f : α → β) (L : List (κ × α)) (k : κ) : look (L.map (fun p => (p.1, f p.2))) k = (look L k).map f := by
  unfold look
  rw [List.find?_map]
  cases hf : L.find? ((fun p : κ × β => decide (p.1 = k)) ∘ fun p => (p.1, f p.2)) with
  | none =>
    have : L.find? (fun p => decide (p.1 = k)) = none := hf
    rw [this]; rfl
  | some p =>
    have : L.find? (fun p => decide (p.1 = k)) = some p := hf
    rw [this]; rfl
theorem put_map {β : Type} (f : α → β) (L : List (κ × α)) (k : κ) (x : α) : put (L.map (fun p => (p.1, f p.2))) k (f x) = (put L k x).map (fun p => (p.1, f p.2)) := by
  unfold put
  rw [look_map]
  cases look L k with
  | none => simp
  | some y =>
    simp only [Option.map_some, Option.isSome_some, if_true, List.map_map]
    apply List.map_congr_left
    intro p _
    simp only [Function.comp]
    split <;> rfl
theorem dele_map {β : Type} (f : α → β) (L : List (κ × α)) (k : κ) : dele (L.map (fun p => (p.1, f p.2))) k = (dele L k).map (fun p => (p.1, f p.2)) := by
  unfold dele
  rw [List.filter_map]
  rfl
theorem put_put (L : List (κ × α)) (k : κ) (x y : α) : put (put L k x) k y = put L k y := by
  unfold put
  by_cases h : (look L k).isSome
  · rw [if_pos h, if_pos h]
    have h2 : (look (L.map fun p => if p.1 = k then (p.1, x) else p) k).isSome := by
      obtain ⟨z, hz⟩ := Option.isSome_iff_exists.1 h
      have := look_mem hz
      unfold look
      rw [Option.isSome_map, List.find?_isSome]
      exact ⟨(k, x), List.mem_map.2 ⟨(k, z), this, by simp⟩, by simp⟩
    rw [if_pos h2, List.map_map]
    apply List.map_congr_left
    intro p _
    simp only [Function.comp]
    by_cases hp : p.1 = k
    · rw [if_pos hp, if_pos hp, if_pos hp]
    · rw [if_neg hp, if_neg hp]
  · rw [if_neg h, if_neg h]
    have hno : look L k = none := by cases hl : look L k with | none => rfl | some y => rw [hl] at h; exact absurd rfl h
    have h2 : (look (L ++ [(k, x)]) k).isSome := by
      unfold look
      rw [Option.isSome_map, List.find?_isSome]
      exact ⟨(k, x), by simp, by simp⟩
    rw [if_pos h2, List.map_append]
    congr 1
    · rw [List.map_congr_left (g := id) (fun q hq => by rw [if_neg (look_none.1 hno q hq)]; rfl)]
      simp
    · simp
theorem look_put (L : List (κ × α)) (k : κ) (x : α) : look (put L k x) k = some x := by
  unfold put
  by_cases h : (look L k).isSome
  · rw [if_pos h]
    induction L with
    | nil => simp [look] at h
    | cons p L ih =>
      unfold look at h ⊢
      rw [List.map_cons, List.find?_cons]
      rw [List.find?_cons] at h
      by_cases hp : p.1 = k
      · simp [hp]
      · simp only [hp, decide_false] at h
        simp only [hp, if_false, decide_false]
        exact ih h
  · rw [if_neg h]
    have hno : ∀ p ∈ L, p.1 ≠ k := look_none.1 (by cases hl : look L k with | none => rfl | some y => rw [hl] at h; exact absurd rfl h)
    unfold look
    rw [List.find?_append]
    have : L.find? (fun p => decide (p.1 = k)) = none := by rw [List.find?_eq_none]; intro p hp; simpa using hno p hp
    rw [this]
    simp
theorem Sep.obj_take {obj : Nat → α → Part} {M : List (κ × (Nat × α))} {k : κ} {q : Nat} {x : α} {l : List Part} {W : World} {F : Nat → Prop} (h : Sep (objsP obj M :: l) W F) (hn : (M.map (·.1)).Nodup) (hl : look M k = some (q, x)) : Sep (obj q x :: objsP obj (dele M k) :: l) W F := by
  have h1 := h.flat.perm (((look_perm hn hl).map (fun m => obj m.2.1 m.2.2)).append_right l)
  exact Sep.cons_imp h1 (fun G hg => hg.nest)
theorem Sep.obj_put {obj : Nat → α → Part} {M : List (κ × (Nat × α))} {k : κ} {q : Nat} {x : α} {l : List Part} {W : World} {F : Nat → Prop} (h : Sep (obj q x :: objsP obj (dele M k) :: l) W F) (hn : (M.map (·.1)).Nodup) : Sep (objsP obj (Oct.put M k (q, x)) :: l) W F := by
  have h1 : Sep (((k, (q, x)) :: dele M k).map (fun m => obj m.2.1 m.2.2) ++ l) W F := Sep.cons_imp h (fun G hg => hg.flat)
  exact (h1.perm (((put_perm M k (q, x) hn).symm.map (fun m => obj m.2.1 m.2.2)).append_right l)).nest
theorem Sep.obj_new {obj : Nat → α → Part} {M : List (κ × (Nat × α))} {k : κ} {q : Nat} {x : α} {l : List Part} {W : World} {F : Nat → Prop} (h : Sep (obj q x :: objsP obj M :: l) W F) (hn : (M.map (·.1)).Nodup) (hl : look M k = none) : Sep (objsP obj (Oct.put M k (q, x)) :: l) W F :=
  Sep.obj_put (M := M) (by rw [dele_none hl]; exact h) hn
theorem Sep.obj_del {obj : Nat → α → Part} {M : List (κ × (Nat × α))} (k : κ) {l : List Part} {W : World} {F : Nat → Prop} (h : Sep (objsP obj M :: l) W F) : Sep (objsP obj (dele M k) :: l) W F :=
  (h.flat.sub ((List.filter_sublist.map _).append_right l)).nest
end
end Go.Proofs.Ytobljkhidgbeoaa.Oct
