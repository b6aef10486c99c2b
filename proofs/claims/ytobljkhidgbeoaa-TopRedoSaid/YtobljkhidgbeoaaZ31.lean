
import Derived.Test.YtobljkhidgbeoaaZ05
/- Works one behind the other, as values: what is under way, what a commit makes, and that the changes, done again, make the same. -/
namespace Go.Proofs.Ytobljkhidgbeoaa.Oct
open Go.RowKit Go.Proofs.YtobljkhidgbeoaaW.PrintWords Go.Proofs.Ytobljkhidgbeoaa.M
set_option linter.unusedVariables false
set_option linter.unusedSimpArgs false
/-! the plain law of works one behind the other -/
def chTakes (l : List Ch) : Nat := (l.filter fun c => c.kind == 4).length
/-- the first t items are a work's -/
def qMark (n : Int) (items : List QI) (t : Nat) : List QI := (items.take t).map (fun x => { x with work := n }) ++ items.drop t
theorem qMark_zero (n : Int) (items : List QI) : qMark n items 0 = items := by simp [qMark]
theorem qMark_len (n : Int) (items : List QI) (t : Nat) : (qMark n items t).length = items.length := by simp [qMark]; omega
theorem qMark_get (n : Int) (items : List QI) (t j : Nat) : (qMark n items t)[j]? = if j < t then (items[j]?).map (fun x => { x with work := n }) else items[j]? := by
  unfold qMark
  rw [List.getElem?_append]
  simp only [List.length_map, List.length_take]
  by_cases h : j < t
  · rw [if_pos h]
    by_cases h2 : j < items.length
    · rw [if_pos (by omega), List.getElem?_map, List.getElem?_take, if_pos h]
    · rw [if_neg (by omega), List.getElem?_drop, List.getElem?_eq_none (by omega), List.getElem?_eq_none (by omega)]; rfl
  · rw [if_neg (by omega), if_neg h, List.getElem?_drop]
    by_cases h2 : t ≤ items.length
    · congr 1; omega
    · rw [List.getElem?_eq_none (by omega), List.getElem?_eq_none (by omega)]
theorem qMark_at {n : Int} {items : List QI} {t : Nat} (h : t < items.length) : (qMark n items t).getD t ⟨0, 0, 0⟩ = items.getD t ⟨0, 0, 0⟩ := by
  rw [List.getD_eq_getElem?_getD, List.getD_eq_getElem?_getD, qMark_get, if_neg (by omega)]
theorem qMark_set {n : Int} {items : List QI} {t : Nat} (h : t < items.length) : (qMark n items t).set t { items.getD t ⟨0, 0, 0⟩ with work := n } = qMark n items (t + 1) := by
  apply List.ext_getElem?
  intro j
  rw [List.getElem?_set, qMark_len, qMark_get, qMark_get]
  by_cases hj : t = j
  · subst hj
    rw [if_pos rfl, if_pos h, if_pos (by omega), List.getD_eq_getElem?_getD, List.getElem?_eq_getElem h]
    rfl
  · rw [if_neg hj]
    by_cases h2 : j < t
    · rw [if_pos h2, if_pos (by omega)]
    · rw [if_neg h2, if_neg (by omega)]
theorem qMark_rest {n : Int} {items : List QI} {t : Nat} (hn : n ≠ 0) (h : ∀ x ∈ items, x.work = 0) : (qMark n items t).filter (fun x => x.work != n) = items.drop t := by
  unfold qMark
  rw [List.filter_append]
  have h1 : ((items.take t).map (fun x => ({ x with work := n } : QI))).filter (fun x => x.work != n) = [] := by
    rw [List.filter_eq_nil_iff]
    intro x hx
    obtain ⟨y, _, rfl⟩ := List.mem_map.1 hx
    simp
  rw [h1, List.nil_append]
  refine List.filter_eq_self.2 (fun x hx => ?_)
  rw [h x (List.mem_of_mem_drop hx)]
  simpa using fun e => hn e.symm
theorem qMark_free {n : Int} {items : List QI} {t : Nat} (hn : n ≠ 0) (h : ∀ x ∈ items, x.work = 0) : (qMark n items t).map (fun x => if x.work == n then ({ x with work := 0 } : QI) else x) = items := by
  apply List.ext_getElem?
  intro j
  rw [List.getElem?_map, qMark_get]
  cases hj : items[j]? with
  | none => simp
  | some x =>
    have h0 := h x (List.mem_of_getElem? hj)
    obtain ⟨a, b, c⟩ := x
    dsimp only at h0
    subst h0
    by_cases h2 : j < t
    · rw [if_pos h2]; simp
    · rw [if_neg h2]
      have : ¬ (0 : Int) = n := fun e => hn e.symm
      simp [this]
theorem qMark_front {n : Int} {items : List QI} {t : Nat} (hn : n ≠ 0) (h : ∀ x ∈ items, x.work = 0) (ht : t ≤ items.length) : qFront (qMark n items t) n = if t < items.length then some t else none := by
  unfold qFront
  by_cases hl : t < items.length
  · rw [if_pos hl, List.findIdx?_eq_some_iff_getElem]
    have hl2 : t < (qMark n items t).length := by rw [qMark_len]; exact hl
    refine ⟨hl2, ?_, fun j hj => ?_⟩
    · have e : (qMark n items t)[t] = items[t] := by
        have := qMark_get n items t t
        rw [if_neg (by omega), List.getElem?_eq_getElem hl2, List.getElem?_eq_getElem hl] at this
        exact Option.some.inj this
      rw [e, h _ (List.getElem_mem hl)]
      simpa using fun e => hn e.symm
    · have hj2 : j < (qMark n items t).length := by omega
      have hj3 : j < items.length := by omega
      have e : (qMark n items t)[j] = { items[j] with work := n } := by
        have := qMark_get n items t j
        rw [if_pos hj, List.getElem?_eq_getElem hj2, List.getElem?_eq_getElem hj3] at this
        exact Option.some.inj this
      rw [e]; simp
  · rw [if_neg hl, List.findIdx?_eq_none_iff]
    intro x hx
    obtain ⟨j, hj, rfl⟩ := List.getElem_of_mem hx
    have hj3 : j < items.length := by rw [qMark_len] at hj; exact hj
    have e : (qMark n items t)[j] = { items[j] with work := n } := by
      have := qMark_get n items t j
      rw [if_pos (by omega), List.getElem?_eq_getElem hj, List.getElem?_eq_getElem hj3] at this
      exact Option.some.inj this
    rw [e]; simp
theorem chPuts_cons (c : Ch) (l : List Ch) : chPuts (c :: l) = (if c.kind == 3 then 1 else 0) + chPuts l := by
  unfold chPuts
  rw [List.filter_cons]
  cases h : (c.kind == 3) <;> simp [Nat.add_comm]
theorem chTakes_cons (c : Ch) (l : List Ch) : chTakes (c :: l) = (if c.kind == 4 then 1 else 0) + chTakes l := by
  unfold chTakes
  rw [List.filter_cons]
  cases h : (c.kind == 4) <;> simp [Nat.add_comm]
theorem chPuts_snoc (l : List Ch) (c : Ch) : chPuts (l ++ [c]) = chPuts l + (if c.kind == 3 then 1 else 0) := by
  unfold chPuts
  rw [List.filter_append, List.length_append]
  cases h : (c.kind == 3) <;> simp [h]
theorem chTakes_snoc (l : List Ch) (c : Ch) : chTakes (l ++ [c]) = chTakes l + (if c.kind == 4 then 1 else 0) := by
  unfold chTakes
  rw [List.filter_append, List.length_append]
  cases h : (c.kind == 4) <;> simp [h]
/-- a change of a queue that is right behind f takes -/
def qOk (items : List QI) (c : Ch) (f : Nat) : Bool := (c.kind == 3 && c.key == 0) || (c.kind == 4 && (decide (f < items.length) && decide (items.getD f ⟨0, 0, 0⟩ = ⟨c.key, c.val, 0⟩)))
theorem qRight_cons (items : List QI) (c : Ch) (l : List Ch) (f : Nat) : qRight items (c :: l) f = (qOk items c f && qRight items l (f + if c.kind == 4 then 1 else 0)) := by
  rw [qRight]
  unfold qOk
  cases h3 : (c.kind == 3 && c.key == 0) with
  | true =>
    rw [if_pos rfl]
    have hk : (c.kind == 4) = false := by
      simp at h3
      rw [h3.1]; rfl
    rw [hk]
    simp
  | false =>
    rw [if_neg (by decide)]
    cases h4 : (c.kind == 4 && (decide (f < items.length) && decide (items.getD f ⟨0, 0, 0⟩ = ⟨c.key, c.val, 0⟩))) with
    | true =>
      rw [if_pos rfl]
      have hk : (c.kind == 4) = true := by
        revert h4; cases (c.kind == 4) <;> simp
      rw [hk]
      simp
    | false => rw [if_neg (by decide)]; simp
theorem qRight_snoc (items : List QI) (c : Ch) : ∀ (l : List Ch) (f : Nat), qRight items (l ++ [c]) f = (qRight items l f && qOk items c (f + chTakes l))
  | [], f => by rw [List.nil_append, qRight_cons]; simp [qRight, chTakes]
  | d :: l, f => by
    rw [List.cons_append, qRight_cons, qRight_snoc items c l, qRight_cons, chTakes_cons, Bool.and_assoc, Nat.add_assoc]
theorem qOk_kind {items : List QI} {c : Ch} {f : Nat} (h : qOk items c f = true) : c.kind = 3 ∧ c.key = 0 ∨ c.kind = 4 ∧ f < items.length ∧ items.getD f ⟨0, 0, 0⟩ = ⟨c.key, c.val, 0⟩ := by
  unfold qOk at h
  simp at h
  rcases h with h | ⟨h1, h2, h3⟩
  · exact .inl h
  · exact .inr ⟨h1, h2, by rw [List.getD_eq_getElem?_getD]; exact h3⟩
theorem qRight_all {items : List QI} : ∀ (l : List Ch) (f : Nat), qRight items l f = true → ∀ c ∈ l, ∃ g, qOk items c g = true
  | [], _, _, c, hc => by cases hc
  | d :: l, f, h, c, hc => by
    rw [qRight_cons, Bool.and_eq_true] at h
    rcases List.mem_cons.1 hc with rfl | hc
    · exact ⟨f, h.1⟩
    · exact qRight_all l _ h.2 c hc
theorem qRight_takes {items : List QI} : ∀ (l : List Ch) (f : Nat), f ≤ items.length → qRight items l f = true → f + chTakes l ≤ items.length
  | [], f, hf, _ => by simpa [chTakes] using hf
  | c :: l, f, hf, h => by
    rw [qRight_cons, Bool.and_eq_true] at h
    rw [chTakes_cons, ← Nat.add_assoc]
    refine qRight_takes l _ ?_ h.2
    rcases qOk_kind h.1 with ⟨h1, _⟩ | ⟨h1, h2, _⟩
    · rw [h1]; simpa using hf
    · rw [h1]; simp; omega
/-- what a commit puts in -/
def newItems : Int → List Ch → List QI
  | _, [] => []
  | g, c :: l => if c.kind == 3 then ⟨g + 1, c.val, 0⟩ :: newItems (g + 1) l else newItems g l
theorem newItems_len : ∀ (l : List Ch) (g : Int), (newItems g l).length = chPuts l
  | [], _ => rfl
  | c :: l, g => by
    rw [newItems, chPuts_cons]
    cases (c.kind == 3)
    · simp [newItems_len l]
    · simp [newItems_len l]; omega
theorem newItems_is {B : Int} : ∀ (l : List Ch) (g : Int), 0 ≤ g → g + chPuts l ≤ B → (∀ c ∈ l, U64 c.val) → ∀ x ∈ newItems g l, x.work = 0 ∧ 0 ≤ x.num ∧ x.num ≤ B ∧ U64 x.val
  | [], _, _, _, _, x, hx => by cases hx
  | c :: l, g, h0, h, hu, x, hx => by
    rw [newItems] at hx
    rw [chPuts_cons] at h
    cases hk : (c.kind == 3) with
    | true =>
      rw [hk] at hx h
      simp only [if_true] at hx h
      rcases List.mem_cons.1 hx with rfl | hx
      · exact ⟨rfl, by show 0 ≤ g + 1; omega, by show g + 1 ≤ B; omega, hu c List.mem_cons_self⟩
      · exact newItems_is l (g + 1) (by omega) (by omega) (fun d hd => hu d (List.mem_cons_of_mem _ hd)) x hx
    | false =>
      rw [hk] at hx h
      simp only [Bool.false_eq_true, if_false] at hx h
      exact newItems_is l g h0 (by omega) (fun d hd => hu d (List.mem_cons_of_mem _ hd)) x hx
theorem qDo_fold : ∀ (l : List Ch) (q : QU), l.foldl qDo q = ⟨q.items ++ newItems q.given l, q.works, q.given + chPuts l⟩
  | [], q => by simp [newItems, chPuts]
  | c :: l, q => by
    rw [List.foldl_cons, qDo_fold l, newItems, chPuts_cons, qDo]
    cases hk : (c.kind == 3)
    · simp
    · simp [List.append_assoc]; omega
theorem qNote_one (n : Int) (l : List Ch) (c : Ch) (p : Bool) : qNote [⟨n, l, p⟩] n c = [⟨n, l ++ [c], p⟩] := by simp [qNote]
theorem qNotes : ∀ (l l0 : List Ch) (n : Int), l.foldl (fun w c => qNote w n c) [⟨n, l0, false⟩] = [⟨n, l0 ++ l, false⟩]
  | [], l0, n => by simp
  | c :: l, l0, n => by
    rw [List.foldl_cons, qNote_one, qNotes l]
    simp
theorem qRedo_fold {items : List QI} {n : Int} : ∀ (l : List Ch) (W : List QW) (g : Int) (f : Nat), f ≤ items.length → qRight items l f = true →
    l.foldl (qRedo n) (⟨qMark n items f, W, g⟩, f) = (⟨qMark n items (f + chTakes l), l.foldl (fun w c => qNote w n c) W, g⟩, f + chTakes l)
  | [], W, g, f, _, _ => by simp [chTakes]
  | c :: l, W, g, f, hf, h => by
    rw [qRight_cons, Bool.and_eq_true] at h
    rw [List.foldl_cons, List.foldl_cons, chTakes_cons]
    rcases qOk_kind h.1 with ⟨h1, _⟩ | ⟨h1, h2, h3⟩
    · have e : qRedo n (⟨qMark n items f, W, g⟩, f) c = (⟨qMark n items f, qNote W n c, g⟩, f) := by unfold qRedo; rw [h1]; rfl
      rw [e, qRedo_fold l _ g f hf (by have := h.2; rw [h1] at this; simpa using this), h1]
      simp
    · have e : qRedo n (⟨qMark n items f, W, g⟩, f) c = (⟨qMark n items (f + 1), qNote W n c, g⟩, f + 1) := by
        unfold qRedo
        rw [h1]
        simp only [BEq.rfl, if_true]
        rw [qMark_at h2, qMark_set h2]
        rfl
      rw [e, qRedo_fold l _ g (f + 1) (by omega) (by have := h.2; rw [h1] at this; simpa using this), h1]
      simp [Nat.add_assoc]
/-- resources with nothing under way -/
structure RS.idle (s : RS) : Prop where
  works : s.kv.works = []
  locks : s.kv.locks = []
  qworks : s.qu.works = []
  p0 : s.p0 = []
  p1 : s.p1 = []
  items : s.qu.items.length ≤ 16
  item : ∀ x ∈ s.qu.items, x.work = 0 ∧ 0 ≤ x.num ∧ x.num ≤ 4611686018427387904 ∧ U64 x.val
  given : 0 ≤ s.qu.given ∧ s.qu.given + 1 ≤ 4611686018427387904
/-- changes of a queue that are right for what there is -/
structure QFit (B : RS) (lq : List Ch) : Prop where
  right : qRight B.qu.items lq 0 = true
  puts : chPuts lq + B.qu.items.length ≤ 16
  given : B.qu.given + 1 + chPuts lq ≤ 4611686018427387904
  vals : ∀ c ∈ lq, U64 c.val
theorem QFit.nil {B : RS} (h : B.idle) : QFit B [] := ⟨rfl, by simpa [chPuts] using h.items, by simpa [chPuts] using h.given.2, fun c hc => by cases hc⟩
/-- what a commit makes -/
def RS.after (B : RS) (lk lq : List Ch) : RS := ⟨⟨(lk.foldl chDo (B.kv.vals, B.kv.there)).1, (lk.foldl chDo (B.kv.vals, B.kv.there)).2, [], []⟩, ⟨B.qu.items.drop (chTakes lq) ++ newItems B.qu.given lq, [], B.qu.given + chPuts lq⟩, [], []⟩
theorem RS.after_idle {B : RS} (h : B.idle) {lk lq : List Ch} (hq : QFit B lq) : (B.after lk lq).idle := by
  refine ⟨rfl, rfl, rfl, rfl, rfl, ?_, ?_, ?_⟩
  · show (B.qu.items.drop (chTakes lq) ++ newItems B.qu.given lq).length ≤ 16
    have := hq.puts
    rw [List.length_append, newItems_len, List.length_drop]
    omega
  · intro x hx
    rcases List.mem_append.1 hx with hx | hx
    · exact h.item x (List.mem_of_mem_drop hx)
    · exact newItems_is lq _ h.given.1 (by have := hq.given; omega) hq.vals x hx
  · show 0 ≤ B.qu.given + chPuts lq ∧ B.qu.given + chPuts lq + 1 ≤ _
    have := hq.given
    have := h.given.1
    omega
/-- resources in which one work is under way -/
structure RS.under (B s : RS) (n : Int) (lk lq : List Ch) : Prop where
  vals : s.kv.vals = B.kv.vals
  there : s.kv.there = B.kv.there
  works : (s.kv.works = [] ∧ lk = []) ∨ s.kv.works = [(n, ⟨lk, false⟩)]
  good : chGood lk
  locks : ∀ p ∈ s.kv.locks, p.1.2 = n
  qworks : (s.qu.works = [] ∧ lq = []) ∨ s.qu.works = [⟨n, lq, false⟩]
  fit : QFit B lq
  items : s.qu.items = qMark n B.qu.items (chTakes lq)
  given : s.qu.given = B.qu.given
  p0 : s.p0 = []
  p1 : s.p1 = []
theorem RS.under.start {B : RS} (h : B.idle) (n : Int) : B.under B n [] [] :=
  ⟨rfl, rfl, .inl ⟨h.works, rfl⟩, ⟨by simp, fun c hc => by cases hc⟩, (fun p hp => by rw [h.locks] at hp; cases hp), .inl ⟨h.qworks, rfl⟩, QFit.nil h, (qMark_zero _ _).symm, rfl, h.p0, h.p1⟩
theorem RS.under.free {B s : RS} {n : Int} {lk lq : List Ch} (h : B.under s n lk lq) (hn : 1 ≤ n) : s.fit n = 0 := by
  unfold RS.fit
  rw [h.p0, h.p1, if_neg (by omega)]
  rfl
theorem lkTake_own {L : Locks} {n key : Int} {a : Bool} (h : ∀ p ∈ L, p.1.2 = n) : ∀ p ∈ (lkTake L n key a).1, p.1.2 = n := by
  unfold lkTake
  split
  · exact h
  · split
    · exact h
    · intro p hp
      rcases put_mem hp with rfl | ⟨hp, _⟩
      · rfl
      · exact h p hp
theorem put_nil {α : Type} (n : Int) (x : α) : put ([] : List (Int × α)) n x = [(n, x)] := rfl
theorem put_one {α : Type} (n : Int) (x y : α) : put [(n, x)] n y = [(n, y)] := by simp [put, look]
theorem look_one {α : Type} (n : Int) (x : α) : look [(n, x)] n = some x := by simp [look]
theorem dele_one {α : Type} (n : Int) (x : α) : dele [(n, x)] n = [] := by simp [dele]
theorem RS.under.change {B s : RS} {n : Int} {lk lq : List Ch} (h : B.under s n lk lq) (hn : 1 ≤ n) {c : Ch} (hc : (c.kind = 1 ∨ (c.kind = 2 ∧ c.val = 0)) ∧ U64 c.val) : ∃ lk', B.under (s.change n c).1 n lk' lq := by
  unfold RS.change
  rw [h.free hn, if_neg (by decide)]
  unfold KV.change
  by_cases ht : (s.kv.touch n c.key true).2 = 0
  · rw [if_pos ht]
    have hkey : 0 ≤ c.key ∧ c.key < 16 := by
      unfold KV.touch at ht
      split at ht
      · cases ht
      · omega
    have hfit : chFit c = true ∧ U64 c.val := by
      refine ⟨?_, hc.2⟩
      unfold chFit
      rcases hc.1 with h1 | ⟨h1, h2⟩
      · simp [h1, hkey]
      · simp [h1, h2, hkey]
    have hgood := chPut_good h.good hfit
    -- what touch makes
    have hT : (s.kv.touch n c.key true).1 = { s.kv with locks := (lkTake s.kv.locks n c.key true).1, works := (s.kv.touch n c.key true).1.works } ∧ look (s.kv.touch n c.key true).1.works n = some ⟨lk, false⟩ ∧ put (s.kv.touch n c.key true).1.works n ⟨chPut lk c, false⟩ = [(n, ⟨chPut lk c, false⟩)] := by
      unfold KV.touch at ht ⊢
      rw [if_neg (by omega)] at ht ⊢
      rcases h.works with ⟨hw, rfl⟩ | hw
      · rw [hw] at ht ⊢
        simp only [look, List.find?_nil, Option.map_none] at ht ⊢
        by_cases hl : (lkTake s.kv.locks n c.key true).2 = 0
        · rw [if_pos hl, put_nil]
          exact ⟨rfl, look_one n _, put_one n _ _⟩
        · rw [if_neg hl] at ht
          exact absurd ht hl
      · rw [hw, look_one] at ht ⊢
        dsimp only at ht ⊢
        rw [if_neg (by decide)] at ht ⊢
        by_cases hl : (lkTake s.kv.locks n c.key true).2 = 0
        · rw [if_pos hl]
          exact ⟨rfl, look_one n _, put_one n _ _⟩
        · rw [if_neg hl] at ht
          exact absurd ht hl
    obtain ⟨e1, e2, e3⟩ := hT
    refine ⟨chPut lk c, ?_⟩
    dsimp only
    rw [e2]
    dsimp only [Option.getD_some]
    rw [e3, e1]
    exact ⟨h.vals, h.there, .inr rfl, hgood, lkTake_own h.locks, h.qworks, h.fit, h.items, h.given, h.p0, h.p1⟩
  · rw [if_neg ht]
    exact ⟨lk, h⟩
theorem RS.under.find {B s : RS} {n : Int} {lk lq : List Ch} (h : B.under s n lk lq) : ((s.qu.find n).map (·.list)).getD [] = lq ∧ ((s.qu.find n).map (·.prep)).getD false = false ∧ ((s.qu.works.map fun w => chPuts w.list).sum : Nat) = chPuts lq ∧ (∀ c, qNote s.qu.works n c = [⟨n, lq ++ [c], false⟩]) := by
  unfold QU.find
  rcases h.qworks with ⟨hw, rfl⟩ | hw
  · rw [hw]
    exact ⟨rfl, rfl, rfl, fun c => rfl⟩
  · rw [hw]
    simp [qNote]
theorem RS.under.push {B s : RS} {n : Int} {lk lq : List Ch} (hB : B.idle) (h : B.under s n lk lq) (hn : 1 ≤ n) {v : Int} (hv : U64 v) : ∃ lq', B.under (s.push n v).1 n lk lq' := by
  unfold RS.push
  rw [h.free hn, if_neg (by decide)]
  obtain ⟨f1, f2, f3, f4⟩ := h.find
  unfold QU.put
  have hf : s.qu.fit n = 0 := by unfold QU.fit; rw [if_neg (by omega), f2]; rfl
  rw [if_neg (by rw [hf]; decide)]
  by_cases hr : s.qu.room < 1
  · rw [if_pos hr]
    exact ⟨lq, h⟩
  · rw [if_neg hr]
    unfold QU.room at hr
    rw [f3, h.given, h.items, qMark_len] at hr
    have hr1 : 1 ≤ (16 - B.qu.items.length - (chPuts lq : Nat) : Int) := by omega
    have hr2 : 1 ≤ (4611686018427387904 - (B.qu.given + 1) - (chPuts lq : Nat) : Int) := by omega
    refine ⟨lq ++ [(⟨3, 0, v⟩ : Ch)], h.vals, h.there, h.works, h.good, h.locks, .inr (f4 ⟨3, 0, v⟩), ⟨?_, ?_, ?_, ?_⟩, ?_, h.given, h.p0, h.p1⟩
    · rw [qRight_snoc, h.fit.right]; rfl
    · rw [chPuts_snoc]; simp; omega
    · rw [chPuts_snoc]; simp; omega
    · intro c hc
      rcases List.mem_append.1 hc with hc | hc
      · exact h.fit.vals c hc
      · obtain rfl := List.mem_singleton.1 hc; exact hv
    · rw [chTakes_snoc]
      exact h.items
theorem RS.under.pop {B s : RS} {n : Int} {lk lq : List Ch} (hB : B.idle) (h : B.under s n lk lq) (hn : 1 ≤ n) : ∃ lq', B.under (s.pop n).1 n lk lq' := by
  unfold RS.pop
  rw [h.free hn, if_neg (by decide)]
  obtain ⟨f1, f2, f3, f4⟩ := h.find
  unfold QU.take
  have hf : s.qu.fit n = 0 := by unfold QU.fit; rw [if_neg (by omega), f2]; rfl
  have hw0 : ∀ x ∈ B.qu.items, x.work = 0 := fun x hx => (hB.item x hx).1
  have ht := qRight_takes lq 0 (Nat.zero_le _) h.fit.right
  rw [Nat.zero_add] at ht
  rw [if_neg (by rw [hf]; decide), h.items, qMark_front (by omega) hw0 ht]
  by_cases hl : chTakes lq < B.qu.items.length
  · rw [if_pos hl]
    dsimp only
    rw [qMark_at hl]
    have hmem : B.qu.items.getD (chTakes lq) ⟨0, 0, 0⟩ ∈ B.qu.items := by
      rw [List.getD_eq_getElem?_getD, List.getElem?_eq_getElem hl]
      exact List.getElem_mem hl
    have hi := hB.item _ hmem
    rw [if_neg (by rw [hi.1]; decide)]
    refine ⟨lq ++ [(⟨4, (B.qu.items.getD (chTakes lq) ⟨0, 0, 0⟩).num, (B.qu.items.getD (chTakes lq) ⟨0, 0, 0⟩).val⟩ : Ch)], h.vals, h.there, h.works, h.good, h.locks, .inr (f4 ⟨4, (B.qu.items.getD (chTakes lq) ⟨0, 0, 0⟩).num, (B.qu.items.getD (chTakes lq) ⟨0, 0, 0⟩).val⟩), ⟨?_, ?_, ?_, ?_⟩, ?_, h.given, h.p0, h.p1⟩
    · rw [qRight_snoc, h.fit.right, Nat.zero_add]
      unfold qOk
      generalize hz : B.qu.items.getD (chTakes lq) ⟨0, 0, 0⟩ = z at hi ⊢
      obtain ⟨a, b, d⟩ := z
      obtain ⟨rfl, _⟩ := hi
      simp [hl]
    · rw [chPuts_snoc]; simpa using h.fit.puts
    · rw [chPuts_snoc]; simpa using h.fit.given
    · intro c hc
      rcases List.mem_append.1 hc with hc | hc
      · exact h.fit.vals c hc
      · obtain rfl := List.mem_singleton.1 hc; exact hi.2.2.2
    · rw [chTakes_snoc]
      show ((qMark n B.qu.items (chTakes lq)).set (chTakes lq) { B.qu.items.getD (chTakes lq) ⟨0, 0, 0⟩ with work := n }) = _
      rw [qMark_set hl]
      simp
  · rw [if_neg hl]
    exact ⟨lq, h⟩

theorem kvRight_ok : ∀ (l : List Ch) (seen : List Int), (∀ c ∈ l, chFit c = true ∧ seen.contains c.key = false) → (l.map (·.key)).Nodup → kvRight l seen = true
  | [], _, _, _ => rfl
  | c :: l, seen, h, hn => by
    obtain ⟨h1, h2⟩ := List.nodup_cons.1 hn
    have hc := h c List.mem_cons_self
    rw [kvRight, hc.1, hc.2, kvRight_ok l (c.key :: seen) (fun d hd => ⟨(h d (List.mem_cons_of_mem _ hd)).1, ?_⟩) h2]
    · rfl
    · have h3 := (h d (List.mem_cons_of_mem _ hd)).2
      have h4 : d.key ≠ c.key := fun e => h1 (by show c.key ∈ _; rw [← e]; exact List.mem_map.2 ⟨d, hd, rfl⟩)
      rw [List.contains_cons, h3]
      simpa using h4
theorem put_len1 {κ α : Type} [DecidableEq κ] (L : List (κ × α)) (k : κ) (x : α) : (put L k x).length ≤ L.length + 1 := by
  unfold put
  split <;> simp
theorem lkTake_free {L : Locks} {n key : Int} (h : ∀ p ∈ L, p.1.2 = n) (hl : L.length < 64) : (lkTake L n key true).2 = 0 ∧ (∀ p ∈ (lkTake L n key true).1, p.1.2 = n) ∧ (lkTake L n key true).1.length ≤ L.length + 1 := by
  have ho := lkTake_own (key := key) (a := true) h
  unfold lkTake at ho ⊢
  have hb : lkBusy L n key true ((look L (key, n)).getD false) = false := by
    unfold lkBusy
    rw [List.any_eq_false]
    intro p hp
    rw [h p hp]
    simp
  rw [hb, if_neg (by decide)] at ho ⊢
  rw [if_neg (by omega)] at ho ⊢
  exact ⟨rfl, ho, put_len1 _ _ _⟩
theorem lkAll_free {n : Int} : ∀ (l : List Ch) (L : Locks), (∀ p ∈ L, p.1.2 = n) → L.length + l.length ≤ 64 → (lkAll L n l).2 = 0 ∧ ∀ p ∈ (lkAll L n l).1, p.1.2 = n
  | [], L, h, _ => ⟨rfl, h⟩
  | c :: l, L, h, hl => by
    simp only [List.length_cons] at hl
    obtain ⟨h1, h2, h3⟩ := lkTake_free (key := c.key) h (by omega)
    rw [lkAll, if_pos h1]
    exact lkAll_free l _ h2 (by omega)
theorem lkDrop_all {L : Locks} {n : Int} (h : ∀ p ∈ L, p.1.2 = n) : lkDrop L n = [] := by
  unfold lkDrop
  rw [List.filter_eq_nil_iff]
  intro p hp
  rw [h p hp]
  simp
theorem QFit.kinds {B : RS} {lq : List Ch} (h : QFit B lq) : ∀ c ∈ lq, c.kind = 3 ∧ c.key = 0 ∨ c.kind = 4 ∧ ∃ x ∈ B.qu.items, x.num = c.key := fun c hc => by
  obtain ⟨g, hg⟩ := qRight_all lq 0 h.right c hc
  rcases qOk_kind hg with h1 | ⟨h1, h2, h3⟩
  · exact .inl h1
  · refine .inr ⟨h1, B.qu.items.getD g ⟨0, 0, 0⟩, ?_, by rw [h3]⟩
    rw [List.getD_eq_getElem?_getD, List.getElem?_eq_getElem h2]
    exact List.getElem_mem h2
/-- what is under way, prepared, and decided -/
structure RS.preps (B s : RS) (n : Int) (lk lq : List Ch) : Prop where
  prep : ∃ s1, s.prepare n = (s1, lk ++ lq, 0) ∧ s1.commit n = (B.after lk lq, 0) ∧ s1.backout n = (B, 0)
theorem RS.under.preps {B s : RS} {n : Int} {lk lq : List Ch} (hB : B.idle) (h : B.under s n lk lq) (hn : 1 ≤ n) : B.preps s n lk lq := by
  obtain ⟨f1, f2, f3, f4⟩ := h.find
  have hw0 : ∀ x ∈ B.qu.items, x.work = 0 := fun x hx => (hB.item x hx).1
  have hn1 : ¬ n < 1 := by omega
  have hqf : s.qu.fit n = 0 := by unfold QU.fit; rw [if_neg hn1, f2]; rfl
  -- the store
  have hK : ∃ k1, s.kv.prepare n = (k1, lk, 0) ∧ k1.commit n = (⟨(lk.foldl chDo (B.kv.vals, B.kv.there)).1, (lk.foldl chDo (B.kv.vals, B.kv.there)).2, [], []⟩, 0) ∧ k1.backout n = (B.kv, 0) := by
    have hBk : B.kv = ⟨B.kv.vals, B.kv.there, [], []⟩ := by
      have h1 := hB.works
      have h2 := hB.locks
      cases hk : B.kv
      rw [hk] at h1 h2
      dsimp only at h1 h2
      rw [h1, h2]
    unfold KV.prepare KV.commit KV.backout KV.gone KV.apply
    simp only [if_neg hn1]
    rcases h.works with ⟨hw, rfl⟩ | hw
    · rw [hw]
      refine ⟨_, rfl, ?_, ?_⟩
      · show ((KV.mk _ _ _ _ : KV), _) = _
        simp only [lkDrop_all h.locks]
        simp [h.vals, h.there, look, dele, lkDrop]
      · simp only [lkDrop_all h.locks]
        rw [hBk]
        simp [h.vals, h.there, dele, lkDrop]
    · rw [hw, look_one]
      dsimp only
      rw [if_neg (by decide)]
      by_cases hl : lk = []
      · rw [if_pos hl]
        subst hl
        refine ⟨_, rfl, ?_, ?_⟩
        · simp only [lkDrop_all h.locks]
          simp [h.vals, h.there, look, dele, lkDrop]
        · rw [hBk]
          simp only [lkDrop_all h.locks]
          simp [h.vals, h.there, dele, lkDrop]
      · rw [if_neg hl]
        refine ⟨_, rfl, ?_, ?_⟩
        · simp [lkDrop_all h.locks, h.vals, h.there, put_one, look_one, dele_one]
        · rw [hBk]
          simp [lkDrop_all h.locks, h.vals, h.there, put_one, dele_one]
  have hBq : B.qu = ⟨B.qu.items, [], B.qu.given⟩ := by
    have h1 := hB.qworks
    cases hk : B.qu
    rw [hk] at h1
    dsimp only at h1
    rw [h1]
  have hQ : ∃ q1, s.qu.prepare n = (q1, lq, 0) ∧ q1.commit n = (⟨B.qu.items.drop (chTakes lq) ++ newItems B.qu.given lq, [], B.qu.given + chPuts lq⟩, 0) ∧ q1.backout n = (B.qu, 0) := by
    unfold QU.prepare QU.commit QU.backout
    rw [if_neg (by rw [hqf]; decide)]
    simp only [if_neg hn1]
    rcases h.qworks with ⟨hw, rfl⟩ | hw
    · have hfd : s.qu.find n = none := by unfold QU.find; rw [hw]; rfl
      rw [hfd]
      refine ⟨s.qu, rfl, ?_, ?_⟩
      · rw [hfd]
        simp only [Option.map_none, Option.getD_none, List.foldl_nil]
        unfold QU.gone
        rw [hw, h.items, qMark_rest (by omega) hw0, h.given]
        simp [newItems, chPuts]
      · unfold QU.gone
        rw [hBq, hw, h.items, qMark_free (by omega) hw0, h.given]
        simp
    · have hfd : s.qu.find n = some ⟨n, lq, false⟩ := by unfold QU.find; rw [hw]; simp
      rw [hfd]
      refine ⟨_, rfl, ?_, ?_⟩
      · have hfd2 : ({ s.qu with works := qPrep s.qu.works n } : QU).find n = some ⟨n, lq, true⟩ := by unfold QU.find; rw [hw]; simp [qPrep]
        rw [hfd2]
        simp only [Option.map_some, Option.getD_some]
        rw [qDo_fold]
        unfold QU.gone
        rw [hw, h.items, h.given]
        simp only
        rw [qMark_rest (by omega) hw0]
        simp [qPrep]
      · unfold QU.gone
        rw [hBq, hw, h.items, h.given]
        simp only
        rw [qMark_free (by omega) hw0]
        simp [qPrep]
  obtain ⟨k1, k2, k3, k4⟩ := hK
  obtain ⟨q1, q2, q3, q4⟩ := hQ
  have hp : ∀ l, dele (pMark [] n l) n = [] := fun l => by
    unfold pMark
    split
    · rfl
    · rw [put_nil, dele_one]
  refine ⟨⟨_, by unfold RS.prepare; rw [h.free hn, if_neg (by decide), k2, q2], ?_, ?_⟩⟩
  · unfold RS.commit
    rw [if_neg hn1]
    simp only [h.p0, h.p1, hp, k3, q3]
    rfl
  · unfold RS.backout
    rw [if_neg hn1]
    simp only [h.p0, h.p1, hp, k4, q4]
    have h1 := hB.p0
    have h2 := hB.p1
    cases hk : B
    rw [hk] at h1 h2
    dsimp only at h1 h2
    rw [h1, h2]
theorem front_rest {lk lq : List Ch} (h1 : ∀ c ∈ lk, chKv c = true) (h2 : ∀ c ∈ lq, chKv c = false) : chFront (lk ++ lq) = lk ∧ chRest (lk ++ lq) = lq := by
  unfold chFront chRest
  induction lk with
  | nil =>
    cases lq with
    | nil => exact ⟨rfl, rfl⟩
    | cons c l => simp [h2 c List.mem_cons_self]
  | cons c l ih =>
    have := ih (fun d hd => h1 d (List.mem_cons_of_mem _ hd))
    simp [h1 c List.mem_cons_self, this.1, this.2]
/-- the same changes, done again -/
theorem RS.redo {B s : RS} {n : Int} {lk lq : List Ch} (hB : B.idle) (hg : chGood lk) (hq : QFit B lq) (hn : 1 ≤ n) :
    ∃ A, B.restore n (lk ++ lq) = (A, 0) ∧ A.commit n = (B.after lk lq, 0) ∧ A.qu.items = qMark n B.qu.items (chTakes lq) ∧ (A.qu.works = [⟨n, lq, true⟩] ∨ (A.qu.works = [] ∧ lq = [])) ∧ A.qu.given = B.qu.given := by
  have hn1 : ¬ n < 1 := by omega
  have hw0 : ∀ x ∈ B.qu.items, x.work = 0 := fun x hx => (hB.item x hx).1
  have hk1 : ∀ c ∈ lk, chKv c = true := fun c hc => by
    have := chFit_key (hg.2 c hc).1
    unfold chKv
    rcases this.2.2 with h | h <;> rw [h] <;> rfl
  have hk2 : ∀ c ∈ lq, chKv c = false := fun c hc => by
    unfold chKv
    rcases hq.kinds c hc with ⟨h, _⟩ | ⟨h, _⟩ <;> rw [h] <;> rfl
  obtain ⟨e1, e2⟩ := front_rest hk1 hk2
  have hany : lq.any chKv = false := by
    rw [List.any_eq_false]
    intro c hc
    rw [hk2 c hc]
    decide
  have hlen := chGood_len hg
  have hR : kvRight lk [] = true := kvRight_ok lk [] (fun c hc => ⟨(hg.2 c hc).1, rfl⟩) hg.1
  obtain ⟨l1, l2⟩ := lkAll_free (n := n) lk [] (fun p hp => by cases hp) (by simp; omega)
  have hK : ∃ k1, B.kv.restore n lk = (k1, 0) ∧ k1.commit n = (⟨(lk.foldl chDo (B.kv.vals, B.kv.there)).1, (lk.foldl chDo (B.kv.vals, B.kv.there)).2, [], []⟩, 0) := by
    unfold KV.restore KV.commit KV.gone KV.apply
    rw [if_neg hn1, if_neg (by rw [hR]; decide), hB.works, if_neg (by simp [look]), hB.locks, if_neg (by rw [l1]; decide)]
    by_cases hl : lk = []
    · rw [if_pos hl]
      subst hl
      refine ⟨_, rfl, ?_⟩
      rw [if_neg hn1]
      simp [look, dele, lkDrop_all l2]
    · rw [if_neg hl]
      refine ⟨_, rfl, ?_⟩
      rw [if_neg hn1]
      simp [put_nil, look_one, dele_one, lkDrop_all l2]
  have hroom : (chPuts lq : Int) ≤ max B.qu.room 0 := by
    unfold QU.room
    rw [hB.qworks]
    have := hq.puts
    have := hq.given
    simp only [List.map_nil, List.sum_nil]
    omega
  have hQR : B.qu.right lq = true := by
    unfold QU.right
    rw [hq.right]
    simpa using hroom
  have hfn : B.qu.find n = none := by unfold QU.find; rw [hB.qworks]; rfl
  have hfold := qRedo_fold (items := B.qu.items) (n := n) lq [] B.qu.given 0 (Nat.zero_le _) hq.right
  rw [qMark_zero, Nat.zero_add] at hfold
  have hBq : B.qu = ⟨B.qu.items, [], B.qu.given⟩ := by
    have h1 := hB.qworks
    cases hk : B.qu
    rw [hk] at h1
    dsimp only at h1
    rw [h1]
  rw [← hBq] at hfold
  have hQ : ∃ q1, B.qu.restore n lq = (q1, 0) ∧ q1.commit n = (⟨B.qu.items.drop (chTakes lq) ++ newItems B.qu.given lq, [], B.qu.given + chPuts lq⟩, 0) ∧ q1.items = qMark n B.qu.items (chTakes lq) ∧ (q1.works = [⟨n, lq, true⟩] ∨ (q1.works = [] ∧ lq = [])) ∧ q1.given = B.qu.given := by
    unfold QU.restore
    rw [if_neg hn1, if_neg (by rw [hQR]; decide), hfn, if_neg (by decide), hfold]
    have hws : qPrep (lq.foldl (fun w c => qNote w n c) []) n = [⟨n, lq, true⟩] ∨ (qPrep (lq.foldl (fun w c => qNote w n c) []) n = [] ∧ lq = []) := by
      cases lq with
      | nil => exact .inr ⟨rfl, rfl⟩
      | cons c l =>
        left
        rw [List.foldl_cons, show qNote [] n c = [⟨n, [c], false⟩] from rfl, qNotes]
        simp [qPrep]
    dsimp only
    refine ⟨_, rfl, ?_, rfl, hws, rfl⟩
    unfold QU.commit
    rw [if_neg hn1]
    rcases hws with hws | ⟨hws, hnil⟩
    · have hfd : (⟨qMark n B.qu.items (chTakes lq), [⟨n, lq, true⟩], B.qu.given⟩ : QU).find n = some ⟨n, lq, true⟩ := by unfold QU.find; simp
      rw [hws, hfd]
      simp only [Option.map_some, Option.getD_some]
      rw [qDo_fold]
      unfold QU.gone
      simp only
      rw [qMark_rest (by omega) hw0]
      simp
    · have hfd : (⟨qMark n B.qu.items (chTakes lq), [], B.qu.given⟩ : QU).find n = none := by unfold QU.find; rfl
      rw [hws, hfd]
      simp only [Option.map_none, Option.getD_none, List.foldl_nil]
      unfold QU.gone
      simp only
      rw [qMark_rest (by omega) hw0]
      subst hnil
      simp [newItems, chPuts]
  obtain ⟨k1, k2, k3⟩ := hK
  obtain ⟨q1, q2, q3, q4, q5, q6⟩ := hQ
  have hp : ∀ l, dele (pMark [] n l) n = [] := fun l => by
    unfold pMark
    split
    · rfl
    · rw [put_nil, dele_one]
  refine ⟨⟨k1, q1, pMark B.p0 n lk, pMark B.p1 n lq⟩, ?_, ?_, q4, q5, q6⟩
  · unfold RS.restore
    rw [if_neg hn1, e1, e2, hany, if_neg (by decide), k2, if_neg (by simp), q2, if_neg (by simp)]
  · unfold RS.commit
    rw [if_neg hn1]
    simp only [hB.p0, hB.p1, hp, k3, q3]
    rfl
end Go.Proofs.Ytobljkhidgbeoaa.Oct
