import Derived.Maps.OwnSet
import Derived.Maps.RangeWalk
import Derived.Laws.StructEq
import Derived.Test.YtobljkhidgbeoaaZ03
/- MAPS as lists of keys and elements, in the order in which they were laid. -/
namespace Go.Proofs.Ytobljkhidgbeoaa.Oct
open Go.RowKit Go.Proofs.YtobljkhidgbeoaaW.PrintWords Go.Proofs.Ytobljkhidgbeoaa.M
open Go.ChangeMaps (setBlock)
set_option linter.unusedVariables false
set_option linter.unusedSimpArgs false
section
variable {κ α : Type} [DecidableEq κ]
def look (L : List (κ × α)) (k : κ) : Option α := (L.find? (fun p => decide (p.1 = k))).map (·.2)
def put (L : List (κ × α)) (k : κ) (x : α) : List (κ × α) := if (look L k).isSome then L.map (fun p => if p.1 = k then (p.1, x) else p) else L ++ [(k, x)]
def dele (L : List (κ × α)) (k : κ) : List (κ × α) := L.filter (fun p => decide (p.1 ≠ k))
theorem look_none {L : List (κ × α)} {k : κ} : look L k = none ↔ ∀ p ∈ L, p.1 ≠ k := by
  unfold look
  simp
theorem look_mem {L : List (κ × α)} {k : κ} {x : α} (h : look L k = some x) : (k, x) ∈ L := by
  unfold look at h
  cases hf : L.find? (fun p => decide (p.1 = k)) with
  | none => rw [hf] at h; cases h
  | some p =>
    rw [hf] at h
    obtain rfl : p.2 = x := by simpa using h
    have h1 := List.find?_some hf
    have h2 := List.mem_of_find?_eq_some hf
    obtain rfl : p.1 = k := by simpa using h1
    exact h2
theorem look_of_mem {L : List (κ × α)} (hn : (L.map (·.1)).Nodup) {k : κ} {x : α} (h : (k, x) ∈ L) : look L k = some x := by
  induction L with
  | nil => cases h
  | cons p L ih =>
    obtain ⟨h1, h2⟩ := List.nodup_cons.1 hn
    unfold look
    rw [List.find?_cons]
    by_cases hp : p.1 = k
    · simp only [hp, decide_true]
      rcases List.mem_cons.1 h with h | h
      · rw [← h]; rfl
      · exfalso
        apply h1
        show p.1 ∈ _
        rw [hp]
        exact List.mem_map.2 ⟨_, h, rfl⟩
    · simp only [hp, decide_false]
      rcases List.mem_cons.1 h with h | h
      · exfalso; apply hp; rw [← h]
      · exact ih h2 h
theorem put_keys {L : List (κ × α)} {k : κ} {x : α} (hn : (L.map (·.1)).Nodup) : ((put L k x).map (·.1)).Nodup := by
  unfold put
  split
  · rw [List.map_map, show ((fun p : κ × α => p.1) ∘ fun p => if p.1 = k then (p.1, x) else p) = (fun p => p.1) from by funext p; simp only [Function.comp]; split <;> rfl]
    exact hn
  · rename_i h
    have h' : ∀ p ∈ L, p.1 ≠ k := look_none.1 (by cases hl : look L k with | none => rfl | some y => rw [hl] at h; exact absurd rfl h)
    rw [List.map_append, List.nodup_append]
    refine ⟨hn, by simp, fun a ha b hb => ?_⟩
    obtain ⟨p, hp, rfl⟩ := List.mem_map.1 ha
    obtain rfl : b = k := by simpa using hb
    exact h' p hp
theorem put_mem {L : List (κ × α)} {k : κ} {x : α} {q : κ × α} (h : q ∈ put L k x) : q = (k, x) ∨ (q ∈ L ∧ q.1 ≠ k) := by
  unfold put at h
  split at h
  · obtain ⟨p, hp, rfl⟩ := List.mem_map.1 h
    split
    · rename_i e; left; rw [e]
    · rename_i e; exact .inr ⟨hp, e⟩
  · rename_i h0
    have h' : ∀ p ∈ L, p.1 ≠ k := look_none.1 (by cases hl : look L k with | none => rfl | some y => rw [hl] at h0; exact absurd rfl h0)
    rcases List.mem_append.1 h with h | h
    · exact .inr ⟨h, h' q h⟩
    · exact .inl (by simpa using h)
theorem dele_keys {L : List (κ × α)} {k : κ} (hn : (L.map (·.1)).Nodup) : ((dele L k).map (·.1)).Nodup := hn.sublist (List.filter_sublist.map _)
end
/-- what the laws on a map need of its keys -/
structure KeyE (P : Program) (k : TypeId) {κ : Type} (ek : κ → Value) (good : κ → Prop) : Prop where
  inj : ∀ {a b : κ}, good a → good b → ek a = ek b → a = b
  check : ∀ (w : World) (em : Bool) {a : κ}, good a → (Instr.checkKey em 10000 k (ek a)).run P w = .ok () w
  find : ∀ (w : World) {x : κ}, good x → ∀ es : List MapEntry, (∀ e ∈ es, ∃ y, good y ∧ e.key = ek y) →
    ((Instr.findKey k (ek x) es).run P w = .ok none w ∧ ∀ e ∈ es, e.key ≠ ek x) ∨ ∃ j e, (Instr.findKey k (ek x) es).run P w = .ok (some (j, e.val)) w ∧ es[j]? = some e ∧ e.key = ek x
  stays : ∀ (w : World) {a : κ}, good a → (Instr.keyThatStays (ek a) (ek a)).run P w = .ok (ek a) w
theorem KeyE.int {P : Program} {k : TypeId} {q : IntKind} (hk : P.underlying k = some (.int q)) : KeyE P k (fun a : Int => Value.int q a) (fun a => (Lit.int q a).wf = true) := by
  have K := Maps.int_keyed hk
  have hm : ∀ {a : Int}, (Lit.int q a).wf = true → keyOf P k (.int q a) = some (.int q a) := fun h => Maps.keyOf_int_mk hk h
  refine ⟨fun _ _ e => by injection e, fun w em a h => K.check w em (hm h), fun w x hx es hes => K.find w (hm hx) es (fun e he => ?_), fun w a h => K.stays w (hm h)⟩
  obtain ⟨y, hy, e1⟩ := hes e he
  exact ⟨_, by rw [e1]; exact hm hy⟩
section
variable {P : Program} {k : TypeId} {κ : Type} {ek : κ → Value} {good : κ → Prop}
theorem findAsking_spec [DecidableEq κ] (heq : ∀ (w : World) (a b : κ), good a → good b → (Op.equal k (ek a) (ek b)).run P w = .ok (decide (a = b)) w) (w : World) {x : κ} (hx : good x) : ∀ (es : List MapEntry) (i : Nat), (∀ e ∈ es, ∃ y, good y ∧ e.key = ek y) →
    ((Instr.findAsking k (ek x) es i).run P w = .ok none w ∧ ∀ e ∈ es, ∃ y, good y ∧ e.key = ek y ∧ y ≠ x) ∨ ∃ j e, (Instr.findAsking k (ek x) es i).run P w = .ok (some (i + j, e.val)) w ∧ es[j]? = some e ∧ e.key = ek x
  | [], i, _ => .inl ⟨rfl, by simp⟩
  | e :: es, i, h => by
    obtain ⟨y, hy, ey⟩ := h e List.mem_cons_self
    have h0 := heq w x y hx hy
    rw [← ey] at h0
    by_cases hxy : x = y
    · refine .inr ⟨0, e, ?_, rfl, by rw [ey, hxy]⟩
      have h0' : (Op.equal k (ek x) e.key).run P w = .ok true w := by rw [h0]; simp [hxy]
      simp [Instr.findAsking, h0', Result.andThen]
    · rcases findAsking_spec heq w hx es (i + 1) (fun x hx => h x (List.mem_cons_of_mem _ hx)) with ⟨h1, h2⟩ | ⟨j, e', h1, h2, h3⟩
      · refine .inl ⟨by simp [Instr.findAsking, h0, hxy, h1, Result.andThen], fun z hz => ?_⟩
        rcases List.mem_cons.1 hz with rfl | hz
        · exact ⟨y, hy, ey, fun e => hxy e.symm⟩
        · exact h2 z hz
      · exact .inr ⟨j + 1, e', by simp [Instr.findAsking, h0, hxy, h1, Result.andThen]; omega, by simpa using h2, h3⟩
theorem KeyE.asked [DecidableEq κ] {fs : Array Field} (hk : P.underlying k = some (.struct fs)) (inj : ∀ {a b : κ}, good a → good b → ek a = ek b → a = b) (check : ∀ (w : World) (em : Bool) {a : κ}, good a → (Instr.checkKey em 10000 k (ek a)).run P w = .ok () w)
    (heq : ∀ (w : World) (a b : κ), good a → good b → (Op.equal k (ek a) (ek b)).run P w = .ok (decide (a = b)) w) (stays : ∀ (w : World) {a : κ}, good a → (Instr.keyThatStays (ek a) (ek a)).run P w = .ok (ek a) w) : KeyE P k ek good := by
  refine ⟨inj, check, fun w x hx es hes => ?_, stays⟩
  have hno : ∀ (e : MapEntry) (l : List MapEntry), Instr.findNow (.struct fs) (ek x) (e :: l) 0 = none := fun e l => by
    simp only [Instr.findNow, Instr.sameNow]
  cases es with
  | nil => exact .inl ⟨by simp [Instr.findKey, run_underlying hk, Instr.findNow], by simp⟩
  | cons e l =>
    have hrun : (Instr.findKey k (ek x) (e :: l)).run P w = (Instr.findAsking k (ek x) (e :: l) 0).run P w := by
      simp [Instr.findKey, run_underlying hk, hno]
    rw [hrun]
    rcases findAsking_spec heq w hx (e :: l) 0 hes with ⟨h1, h2⟩ | ⟨j, e', h1, h2, h3⟩
    · refine .inl ⟨h1, fun z hz e1 => ?_⟩
      obtain ⟨y, hy, ey, hne⟩ := h2 z hz
      exact hne (inj hy hx (ey.symm.trans e1))
    · exact .inr ⟨j, e', by simpa using h1, h2, h3⟩
/-- a map's entries: their stamps -/
structure MapOk (es : Array MapEntry) (clk : Nat) : Prop where
  born : ∀ e ∈ es.toList, e.born < clk
  once : (es.toList.map (·.born)).Nodup
def Ents {α : Type} (ek : κ → Value) (ev : α → Value) (good : κ → Prop) (es : List MapEntry) (L : List (κ × α)) : Prop := es.map (fun e => (e.key, e.val)) = L.map (fun p => (ek p.1, ev p.2)) ∧ (∀ p ∈ L, good p.1) ∧ (L.map (·.1)).Nodup
def mapP {α : Type} (ek : κ → Value) (ev : α → Value) (good : κ → Prop) (v : Value) (L : List (κ × α)) : Part := ⟨fun W F => (v = .map none ∧ L = []) ∨ ∃ m es clk, v = .map (some m) ∧ F m ∧ W.heap[m]? = some (.map es clk) ∧ MapOk es clk ∧ Ents ek ev good es.toList L, by
  intro W W' F F' h hs hb
  rcases h with h | ⟨m, es, clk, e, hF, hh, h2⟩
  · exact .inl h
  · have hl := (Array.getElem?_eq_some_iff.1 hh).1
    exact .inr ⟨m, es, clk, e, (hb m hF hl).2, ((hb m hF hl).1).trans hh, h2⟩⟩
theorem mapP_nil {α : Type} (ev : α → Value) (W : World) (F : Nat → Prop) : (mapP ek ev good (.map none) []).P W F := .inl ⟨rfl, rfl⟩
theorem Ents.mem {α : Type} {ev : α → Value} {es : List MapEntry} {L : List (κ × α)} (h : Ents ek ev good es L) {e : MapEntry} (he : e ∈ es) : ∃ p ∈ L, e.key = ek p.1 ∧ e.val = ev p.2 ∧ good p.1 := by
  have : (e.key, e.val) ∈ L.map (fun p => (ek p.1, ev p.2)) := by rw [← h.1]; exact List.mem_map.2 ⟨e, he, rfl⟩
  obtain ⟨p, hp, e1⟩ := List.mem_map.1 this
  injection e1 with e1 e2
  exact ⟨p, hp, e1.symm, e2.symm, h.2.1 p hp⟩
theorem Ents.get {α : Type} {ev : α → Value} {es : List MapEntry} {L : List (κ × α)} (h : Ents ek ev good es L) {j : Nat} {e : MapEntry} (he : es[j]? = some e) : ∃ p, L[j]? = some p ∧ e.key = ek p.1 ∧ e.val = ev p.2 := by
  have h1 : (es.map (fun e => (e.key, e.val)))[j]? = some (e.key, e.val) := by rw [List.getElem?_map, he]; rfl
  rw [h.1, List.getElem?_map] at h1
  cases hp : L[j]? with
  | none => rw [hp] at h1; cases h1
  | some p =>
    rw [hp] at h1
    injection h1 with h1
    injection h1 with e1 e2
    exact ⟨p, rfl, e1.symm, e2.symm⟩
/-- m[k] -/
theorem lookup_run [DecidableEq κ] {α : Type} {ev : α → Value} {v : Value} {L : List (κ × α)} {W : World} {F : Nat → Prop} (K : KeyE P k ek good) (h : (mapP ek ev good v L).P W F) {t e : TypeId} (ht : P.underlying t = some (.map k e)) {z : Value} (hz : (zeroValue e).run P W = .ok z W) (c : Bool) {x : κ} (hx : good x) :
    (Instr.lookup t v (ek x) c).run P W = .ok (if c then .tuple #[((look L x).map ev).getD z, .bool (look L x).isSome] else ((look L x).map ev).getD z) W := by
  rcases h with ⟨rfl, rfl⟩ | ⟨m, es, clk, rfl, hF, hh, hok, hen⟩
  · rcases K.find W hx [] (by simp) with ⟨f1, _⟩ | ⟨j, e0, _, f2, _⟩
    · simp [Instr.lookup, run_underlying ht, K.check W _ hx, f1, hz, Result.andThen, look]
    · simp at f2
  · rcases K.find W hx es.toList (fun y hy => by obtain ⟨p, _, e1, _, hg⟩ := hen.mem hy; exact ⟨p.1, hg, e1⟩) with ⟨h1, h2⟩ | ⟨j, e0, h1, h2, h3⟩
    · have hl : look L x = none := look_none.2 (fun p hp e => by
        have : (ek p.1, ev p.2) ∈ es.toList.map (fun e => (e.key, e.val)) := by rw [hen.1]; exact List.mem_map.2 ⟨p, hp, rfl⟩
        obtain ⟨y, hy, e1⟩ := List.mem_map.1 this
        injection e1 with e1 _
        exact h2 y hy (by rw [e1, e]))
      rw [hl]
      simp [Instr.lookup, run_underlying ht, MapKept.run_getObj_map hh, K.check W _ hx, h1, hz, Result.andThen]
    · obtain ⟨p, hp, e1, e2⟩ := hen.get h2
      have hpm := List.mem_of_getElem? hp
      have hpx : p.1 = x := K.inj (hen.2.1 p hpm) hx (e1.symm.trans h3)
      have hl : look L x = some p.2 := look_of_mem hen.2.2 (by rw [← hpx]; exact hpm)
      rw [hl]
      simp [Instr.lookup, run_underlying ht, MapKept.run_getObj_map hh, K.check W _ hx, h1, e2, Result.andThen]
theorem len_run {α : Type} {ev : α → Value} {v : Value} {L : List (κ × α)} {W : World} {F : Nat → Prop} (h : (mapP ek ev good v L).P W F) {t e : TypeId} (ht : P.underlying t = some (.map k e)) (ty : TypeId) :
    (Builtin.len_ #[t] ty #[v]).run P W = .ok (.int .i64 L.length) W := by
  rcases h with ⟨rfl, rfl⟩ | ⟨m, es, clk, rfl, hF, hh, hok, hen⟩
  · exact Maps.len_nil ht ty
  · have : es.size = L.length := by
      have := congrArg List.length hen.1
      simpa using this
    simp [Builtin.len_, run_underlying ht, MapKept.run_getObj_map hh, goInt, Result.andThen, this]
theorem map_set_same {α β : Type} (f : α → β) (l : List α) (j : Nat) (y : α) : (l.set j y).map f = (l.map f).set j (f y) := by rw [List.map_set]
theorem nodup_at {α : Type} {L : List (κ × α)} (hn : (L.map (·.1)).Nodup) {i j : Nat} {p q : κ × α} (hi : L[i]? = some p) (hj : L[j]? = some q) (e : p.1 = q.1) : i = j := by
  obtain ⟨hi1, hi2⟩ := List.getElem?_eq_some_iff.1 hi
  obtain ⟨hj1, hj2⟩ := List.getElem?_eq_some_iff.1 hj
  have := (List.getElem_inj (h₀ := by simpa using hi1) (h₁ := by simpa using hj1) hn).1 (by simp [hi2, hj2, e])
  exact this
/-- m[k] = x -/
theorem update_run [DecidableEq κ] {α : Type} {ev : α → Value} {m : Nat} {L : List (κ × α)} {W : World} {F : Nat → Prop} (K : KeyE P k ek good) (h : (mapP ek ev good (.map (some m)) L).P W F) {t e : TypeId} (ht : P.underlying t = some (.map k e)) {x : κ} (hx : good x) (y : α) :
    ∃ es' clk', (Instr.mapUpdate t (.map (some m)) (ek x) (ev y)).run P W = .ok () (setBlock W m (.map es' clk')) ∧ F m ∧ m < W.heap.size ∧ MapOk es' clk' ∧ Ents ek ev good es'.toList (put L x y) := by
  rcases h with ⟨e, _⟩ | ⟨m, es, clk, e, hF, hh, hok, hen⟩
  · cases e
  · injection e with e
    injection e with e
    subst e
    have hlt := (Array.getElem?_eq_some_iff.1 hh).1
    rcases K.find W hx es.toList (fun y hy => by obtain ⟨p, _, e1, _, hg⟩ := hen.mem hy; exact ⟨p.1, hg, e1⟩) with ⟨h1, h2⟩ | ⟨j, e0, h1, h2, h3⟩
    · have hl : look L x = none := look_none.2 (fun p hp e => by
        have : (ek p.1, ev p.2) ∈ es.toList.map (fun e => (e.key, e.val)) := by rw [hen.1]; exact List.mem_map.2 ⟨p, hp, rfl⟩
        obtain ⟨y, hy, e1⟩ := List.mem_map.1 this
        injection e1 with e1 _
        exact h2 y hy (by rw [e1, e]))
      have hput : put L x y = L ++ [(x, y)] := by unfold put; rw [hl]; rfl
      refine ⟨es.push { key := ek x, val := ev y, born := clk }, clk + 1, ?_, hF, hlt, ⟨fun z hz => ?_, ?_⟩, ?_, ?_, put_keys hen.2.2⟩
      · simp [Instr.mapUpdate, run_underlying ht, MapKept.run_getObj_map hh, K.check W _ hx, h1, MapKept.run_setObj_map _ hh, Result.andThen, setBlock]
      · rw [Array.toList_push] at hz
        rcases List.mem_append.1 hz with hz | hz
        · have := hok.born z hz; omega
        · obtain rfl := List.mem_singleton.1 hz; exact Nat.lt_succ_self _
      · rw [Array.toList_push, List.map_append, List.nodup_append]
        refine ⟨hok.once, by simp, fun a ha b hb => ?_⟩
        obtain ⟨z, hz, rfl⟩ := List.mem_map.1 ha
        obtain rfl : b = clk := by simpa using hb
        have := hok.born z hz
        omega
      · rw [Array.toList_push, List.map_append, hen.1, hput, List.map_append]
        rfl
      · rw [hput]
        intro p hp
        rcases List.mem_append.1 hp with hp | hp
        · exact hen.2.1 p hp
        · obtain rfl := List.mem_singleton.1 hp; exact hx
    · obtain ⟨p, hp, e1, e2⟩ := hen.get h2
      have hpm := List.mem_of_getElem? hp
      have hpx : p.1 = x := K.inj (hen.2.1 p hpm) hx (e1.symm.trans h3)
      have hl : look L x = some p.2 := look_of_mem hen.2.2 (by rw [← hpx]; exact hpm)
      have hput : put L x y = L.set j (x, y) := by
        unfold put
        rw [hl]
        simp only [Option.isSome_some, if_true]
        apply List.ext_getElem?
        intro i
        rw [List.getElem?_map, List.getElem?_set]
        by_cases hij : j = i
        · subst hij
          rw [hp, if_pos rfl, if_pos (List.getElem?_eq_some_iff.1 hp).1]
          simp [hpx]
        · rw [if_neg hij]
          cases hi : L[i]? with
          | none => rfl
          | some q =>
            have hq : q.1 ≠ x := fun e => hij (nodup_at hen.2.2 hp hi (by rw [hpx, e]))
            simp [hq]
      have hst := K.stays W hx
      have hkey : ((es[j]?).map (·.key)).getD (ek x) = ek x := by
        have : es[j]? = some e0 := by simpa using h2
        rw [this]; exact h3
      have hes : (es.modify j fun z => { z with key := ek x, val := ev y }).toList = es.toList.set j { e0 with key := ek x, val := ev y } := by
        have hj := (List.getElem?_eq_some_iff.1 h2).1
        have hje := (List.getElem?_eq_some_iff.1 h2).2
        apply List.ext_getElem?
        intro i
        rw [Array.getElem?_toList, Array.getElem?_modify, List.getElem?_set]
        by_cases hij : j = i
        · subst hij
          have : es[j]? = some e0 := by simpa using h2
          have hjs : j < es.size := by simpa using hj
          have hje' : es[j] = e0 := by rw [← hje]; simp
          simp [hjs, hje']
        · simp [hij]
      have hmb : (es.toList.set j { e0 with key := ek x, val := ev y }).map (·.born) = es.toList.map (·.born) := by
        rw [List.map_set]
        apply List.ext_getElem?
        intro i
        rw [List.getElem?_set]
        by_cases hij : j = i
        · subst hij
          have hjs : j < es.size := by simpa using (List.getElem?_eq_some_iff.1 h2).1
          have hje := (List.getElem?_eq_some_iff.1 h2).2
          have hje' : es[j].born = e0.born := by rw [← hje]; simp
          rw [if_pos rfl, List.getElem?_map, h2]
          simp [hjs, hje']
        · rw [if_neg hij]
      refine ⟨es.modify j fun z => { z with key := ek x, val := ev y }, clk, ?_, hF, hlt, ⟨fun z hz => ?_, by rw [hes, hmb]; exact hok.once⟩, ?_, fun q hq => ?_, put_keys hen.2.2⟩
      · have hkey' : Option.getD (Option.map (fun x => x.key) es[j]?) (ek x) = ek x := hkey
        simp [Instr.mapUpdate, run_underlying ht, MapKept.run_getObj_map hh, K.check W _ hx, h1, hkey', hst, MapKept.run_setObj_map _ hh, Result.andThen, setBlock]
      · rw [hes] at hz
        have : z.born ∈ (es.toList.set j { e0 with key := ek x, val := ev y }).map (·.born) := List.mem_map.2 ⟨z, hz, rfl⟩
        rw [hmb] at this
        obtain ⟨u, hu, e⟩ := List.mem_map.1 this
        rw [← e]
        exact hok.born u hu
      · rw [hes, hput, List.map_set, List.map_set, hen.1]
      · rcases put_mem hq with rfl | ⟨hq, _⟩
        · exact hx
        · exact hen.2.1 q hq
theorem setBlock_heap {W : World} {m : Nat} {o : Obj} (h : m < W.heap.size) : (setBlock W m o).heap[m]? = some o ∧ (∀ k, k ≠ m → (setBlock W m o).heap[k]? = W.heap[k]?) ∧ (setBlock W m o).heap.size = W.heap.size := by
  refine ⟨by simp [setBlock, h], fun k hk => ?_, by simp [setBlock]⟩
  simp only [setBlock]
  rw [Array.getElem?_setIfInBounds_ne (by omega)]
/-- delete(m, k) -/
theorem delete_run [DecidableEq κ] {α : Type} {ev : α → Value} {m : Nat} {L : List (κ × α)} {W : World} {F : Nat → Prop} (K : KeyE P k ek good) (h : (mapP ek ev good (.map (some m)) L).P W F) {t e : TypeId} (ht : P.underlying t = some (.map k e)) {x : κ} (hx : good x) (ty : TypeId) :
    ∃ es' clk', (Builtin.delete_ #[t, k] ty #[.map (some m), ek x]).run P W = .ok (.tuple #[]) (setBlock W m (.map es' clk')) ∧ F m ∧ m < W.heap.size ∧ MapOk es' clk' ∧ Ents ek ev good es'.toList (dele L x) := by
  rcases h with ⟨e, _⟩ | ⟨m, es, clk, e, hF, hh, hok, hen⟩
  · cases e
  · injection e with e
    injection e with e
    subst e
    have hlt := (Array.getElem?_eq_some_iff.1 hh).1
    rcases K.find W hx es.toList (fun y hy => by obtain ⟨p, _, e1, _, hg⟩ := hen.mem hy; exact ⟨p.1, hg, e1⟩) with ⟨h1, h2⟩ | ⟨j, e0, h1, h2, h3⟩
    · have hd : dele L x = L := List.filter_eq_self.2 (fun p hp => by
        have : (ek p.1, ev p.2) ∈ es.toList.map (fun e => (e.key, e.val)) := by rw [hen.1]; exact List.mem_map.2 ⟨p, hp, rfl⟩
        obtain ⟨y, hy, e1⟩ := List.mem_map.1 this
        injection e1 with e1 _
        have : p.1 ≠ x := fun e => h2 y hy (by rw [e1, e])
        simpa using this)
      refine ⟨es, clk, ?_, hF, hlt, hok, by rw [hd]; exact hen⟩
      simp [Builtin.delete_, run_underlying ht, MapKept.run_getObj_map hh, K.check W _ hx, h1, MapKept.run_setObj_map _ hh, Result.andThen, setBlock]
    · obtain ⟨p, hp, e1, e2⟩ := hen.get h2
      have hpm := List.mem_of_getElem? hp
      have hpx : p.1 = x := K.inj (hen.2.1 p hpm) hx (e1.symm.trans h3)
      have hd : dele L x = L.eraseIdx j := by
        have := ChangeMaps.filter_eq_eraseIdx (fun q : κ × α => decide (q.1 = x)) L j p hp (by simp [hpx]) (by
          have := hen.2.2
          rw [List.nodup_iff_pairwise_ne, List.pairwise_map] at this
          refine this.imp ?_
          intro a b hab ⟨h1, h2⟩
          simp at h1 h2
          exact hab (h1.trans h2.symm))
        unfold dele
        rw [← this]
        congr 1
        funext q
        simp
      have hjs : j < es.size := by simpa using (List.getElem?_eq_some_iff.1 h2).1
      have hsub : (es.eraseIdxIfInBounds j).toList = es.toList.eraseIdx j := by
        unfold Array.eraseIdxIfInBounds
        rw [dif_pos hjs]
        simp
      have hsl : List.Sublist (es.toList.eraseIdx j) es.toList := List.eraseIdx_sublist _ _
      refine ⟨es.eraseIdxIfInBounds j, clk, ?_, hF, hlt, ⟨fun z hz => ?_, ?_⟩, ?_, fun q hq => ?_, ?_⟩
      · simp [Builtin.delete_, run_underlying ht, MapKept.run_getObj_map hh, K.check W _ hx, h1, MapKept.run_setObj_map _ hh, Result.andThen, setBlock]
      · rw [hsub] at hz; exact hok.born z (hsl.subset hz)
      · rw [hsub]; exact hok.once.sublist (hsl.map _)
      · rw [hsub, hd, ChangeMaps.map_eraseIdx, ChangeMaps.map_eraseIdx, hen.1]
      · exact hen.2.1 q (List.mem_filter.1 hq).1
      · exact dele_keys hen.2.2
/-! where a call stands -/
theorem St.look [DecidableEq κ] {α : Type} {ev : α → Value} {v : Value} {L : List (κ × α)} {w W : World} {F : Nat → Prop} {l : List Part} (h : St w F W (mapP ek ev good v L :: l)) (K : KeyE P k ek good) {t e : TypeId} (ht : P.underlying t = some (.map k e)) {z : Value} (hz : (zeroValue e).run P W = .ok z W) (c : Bool) {x : κ} (hx : good x) :
    (Instr.lookup t v (ek x) c).run P W = .ok (if c then .tuple #[((Oct.look L x).map ev).getD z, .bool (Oct.look L x).isSome] else ((Oct.look L x).map ev).getD z) W := lookup_run K h.1.head ht hz c hx
theorem St.len {α : Type} {ev : α → Value} {v : Value} {L : List (κ × α)} {w W : World} {F : Nat → Prop} {l : List Part} (h : St w F W (mapP ek ev good v L :: l)) {t e : TypeId} (ht : P.underlying t = some (.map k e)) (ty : TypeId) :
    (Builtin.len_ #[t] ty #[v]).run P W = .ok (.int .i64 L.length) W := len_run h.1.head ht ty
theorem St.turn {A B : Part} {w W W' : World} {F : Nat → Prop} {l : List Part} (h : St w F W (A :: l)) (hc : ∀ F1, A.P W F1 → B.P W' (New W F1) ∧ Kp W F1 W') : St w F W' (B :: l) := by
  obtain ⟨F1, h1, _, _, h3⟩ := St.part (l1 := [A]) h
  obtain ⟨h4, h5⟩ := hc F1 h1.one
  exact h3 [B] W' (Sep.of_one h4) h5
theorem kp_setBlock {W : World} {m : Nat} {o : Obj} {F : Nat → Prop} (h : m < W.heap.size) (hF : F m) : Kp W F (setBlock W m o) := by
  obtain ⟨_, h2, h3⟩ := setBlock_heap (o := o) h
  exact ⟨rfl, rfl, rfl, by rw [h3]; exact Nat.le_refl _, fun k _ hf => h2 k (fun e => hf (by rw [e]; exact hF))⟩
theorem St.update [DecidableEq κ] {α : Type} {ev : α → Value} {m : Nat} {L : List (κ × α)} {w W : World} {F : Nat → Prop} {l : List Part} (h : St w F W (mapP ek ev good (.map (some m)) L :: l)) (K : KeyE P k ek good) {t e : TypeId} (ht : P.underlying t = some (.map k e)) {x : κ} (hx : good x) (y : α) :
    ∃ W', (Instr.mapUpdate t (.map (some m)) (ek x) (ev y)).run P W = .ok () W' ∧ St w F W' (mapP ek ev good (.map (some m)) (put L x y) :: l) := by
  obtain ⟨es', clk', h1, _, h3, h4, h5⟩ := update_run K h.1.head ht hx y
  refine ⟨_, h1, h.turn (fun F1 hp => ?_)⟩
  rcases hp with ⟨e, _⟩ | ⟨m', es, clk, e, hF, hh, _⟩
  · cases e
  · injection e with e
    injection e with e
    subst e
    exact ⟨.inr ⟨m, es', clk', rfl, .inl hF, (setBlock_heap h3).1, h4, h5⟩, kp_setBlock h3 hF⟩
theorem St.delete [DecidableEq κ] {α : Type} {ev : α → Value} {v : Value} {L : List (κ × α)} {w W : World} {F : Nat → Prop} {l : List Part} (h : St w F W (mapP ek ev good v L :: l)) (K : KeyE P k ek good) {t e : TypeId} (ht : P.underlying t = some (.map k e)) {x : κ} (hx : good x) (ty : TypeId) :
    ∃ W', (Builtin.delete_ #[t, k] ty #[v, ek x]).run P W = .ok (.tuple #[]) W' ∧ St w F W' (mapP ek ev good v (dele L x) :: l) := by
  rcases h.1.head with ⟨rfl, rfl⟩ | ⟨m, es, clk, rfl, _⟩
  · refine ⟨W, ?_, h⟩
    simp [Builtin.delete_, run_underlying ht, K.check W _ hx, Result.andThen]
  · obtain ⟨es', clk', h1, _, h3, h4, h5⟩ := delete_run K h.1.head ht hx ty
    refine ⟨_, h1, h.turn (fun F1 hp => ?_)⟩
    rcases hp with ⟨e, _⟩ | ⟨m', es, clk, e, hF, hh, _⟩
    · cases e
    · injection e with e
      injection e with e
      subst e
      exact ⟨.inr ⟨m, es', clk', rfl, .inl hF, (setBlock_heap h3).1, h4, h5⟩, kp_setBlock h3 hF⟩
theorem Sep.map_open {α : Type} {ev : α → Value} {v : Value} {L : List (κ × α)} {W : World} {F : Nat → Prop} {l : List Part} (h : Sep (mapP ek ev good v L :: l) W F) :
    (v = .map none ∧ L = []) ∨ ∃ m es clk, v = .map (some m) ∧ MapOk es clk ∧ Ents ek ev good es.toList L ∧ Sep (pt m (.map es clk) :: l) W F := by
  rcases h.head with h0 | ⟨m, es, clk, e, hF, hh, ho, he⟩
  · exact .inl h0
  · refine .inr ⟨m, es, clk, e, ho, he, h.imp (fun G hg => ?_)⟩
    rcases hg with ⟨e1, _⟩ | ⟨m', es', clk', e1, hG, hh', _⟩
    · rw [e] at e1; cases e1
    · rw [e] at e1
      injection e1 with e1
      injection e1 with e1
      subst e1
      exact ⟨hG, hh⟩
theorem Sep.map_shut {α : Type} {ev : α → Value} {m : Nat} {es : Array MapEntry} {clk : Nat} {L : List (κ × α)} {W : World} {F : Nat → Prop} {l : List Part} (h : Sep (pt m (.map es clk) :: l) W F) (ho : MapOk es clk) (he : Ents ek ev good es.toList L) : Sep (mapP ek ev good (.map (some m)) L :: l) W F :=
  h.imp (fun G hg => .inr ⟨m, es, clk, rfl, hg.1, hg.2, ho, he⟩)
theorem St.map_open {α : Type} {ev : α → Value} {v : Value} {L : List (κ × α)} {w W : World} {F : Nat → Prop} {l : List Part} (h : St w F W (mapP ek ev good v L :: l)) :
    (v = .map none ∧ L = []) ∨ ∃ m es clk, v = .map (some m) ∧ MapOk es clk ∧ Ents ek ev good es.toList L ∧ St w F W (pt m (.map es clk) :: l) := by
  rcases h.1.map_open with h0 | ⟨m, es, clk, e, ho, he, hs⟩
  · exact .inl h0
  · exact .inr ⟨m, es, clk, e, ho, he, hs, h.2⟩
theorem St.map_shut {α : Type} {ev : α → Value} {m : Nat} {es : Array MapEntry} {clk : Nat} {L : List (κ × α)} {w W : World} {F : Nat → Prop} {l : List Part} (h : St w F W (pt m (.map es clk) :: l)) (ho : MapOk es clk) (he : Ents ek ev good es.toList L) : St w F W (mapP ek ev good (.map (some m)) L :: l) := ⟨h.1.map_shut ho he, h.2⟩
theorem St.made {α : Type} (ek : κ → Value) (ev : α → Value) (good : κ → Prop) {w W : World} {F : Nat → Prop} {l : List Part} (h : St w F W l) : St w F (W.alloc (.map #[] 0)) (mapP ek ev good (.map (some W.heap.size)) [] :: l) :=
  (h.alloc (.map #[] 0)).of (fun hs => hs.imp (fun G hg => .inr ⟨W.heap.size, #[], 0, rfl, hg.1, hg.2, ⟨fun e he => by simp at he, by simp⟩, by simp [Ents]⟩))
end
/-- one step of a range over a map: nothing is left, or an entry that was not handed out -/
theorem St.next {P : Program} {w W : World} {F : Nat → Prop} {l : List Part} {r m s c clk : Nat} {seen : Array Nat} {es : Array MapEntry} (h : St w F W (pt r (.mapIter (some m) s seen c) :: pt m (.map es clk) :: l)) (hs : ∀ x ∈ es.toList, x.born < s) (hc : s ≤ c) (ho : (es.toList.map (·.born)).Nodup) (ty : TypeId) :
    ((leftOf es seen).size = 0 ∧ (Instr.next (.pointer (some ⟨r, 0, none⟩)) false ty).run P W = .ok (.tuple #[.bool false]) W) ∨
    ∃ e W', e ∈ es.toList ∧ seen.contains e.born = false ∧ (Instr.next (.pointer (some ⟨r, 0, none⟩)) false ty).run P W = .ok (.tuple #[.bool true, e.key, e.val]) W' ∧ (Instr.entry (.pointer (some ⟨r, 0, none⟩))).run P W' = .ok (.tuple #[e.key, e.val]) W' ∧
      St w F W' (pt r (.mapIter (some m) s (seen.push e.born) clk) :: pt m (.map es clk) :: l) := by
  have hr := h.heap
  have hm := (h.1.tail).heap.1
  rcases run_next_at (P := P) W ty r m s c seen es clk hr hm hs hc with ⟨h0, hrun⟩ | ⟨e, he, w1, hw, hrun⟩
  · exact .inl ⟨h0, hrun⟩
  · have hst : St w F w1 (pt r (.mapIter (some m) s seen c) :: pt m (.map es clk) :: l) := by
      rcases hw with rfl | rfl
      · exact h
      · exact h.drew
    have hlt : r < w1.heap.size := (Array.getElem?_eq_some_iff.1 hst.heap).1
    have hst2 : St w F (setBlock w1 r (.mapIter (some m) s (seen.push e.born) clk)) (pt r (.mapIter (some m) s (seen.push e.born) clk) :: pt m (.map es clk) :: l) :=
      hst.turn (fun F1 hp => ⟨⟨.inl hp.1, (setBlock_heap hlt).1⟩, kp_setBlock hlt hp.1⟩)
    have hel : e ∈ es.toList ∧ seen.contains e.born = false := by
      have : e ∈ leftOf es seen := by simpa using he
      unfold leftOf at this
      rw [Array.mem_filter] at this
      exact ⟨by simpa using this.1, by simpa using this.2⟩
    exact .inr ⟨e, _, hel.1, hel.2, hrun, run_entry_at _ r m s seen es clk e hst2.heap (hst2.1.tail).heap.1 hel.1 ho, hst2⟩
end Go.Proofs.Ytobljkhidgbeoaa.Oct
