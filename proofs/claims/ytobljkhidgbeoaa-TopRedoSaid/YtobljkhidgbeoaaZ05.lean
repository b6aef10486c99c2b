
import Derived.Test.YtobljkhidgbeoaaZ04
/- What resources are, as values: locks, keys, a queue. -/
namespace Go.Proofs.Ytobljkhidgbeoaa.Oct
open Go.RowKit Go.Proofs.YtobljkhidgbeoaaW.PrintWords Go.Proofs.Ytobljkhidgbeoaa.M
set_option linter.unusedVariables false
set_option linter.unusedSimpArgs false
def I64 (x : Int) : Prop := -9223372036854775808 ≤ x ∧ x ≤ 9223372036854775807
def U64 (x : Int) : Prop := 0 ≤ x ∧ x ≤ 18446744073709551615
/-- a change -/
structure Ch where
  kind : Int
  key : Int
  val : Int
  deriving DecidableEq
def Ch.ok (c : Ch) : Prop := I64 c.kind ∧ I64 c.key ∧ U64 c.val
def Ch.cs (c : Ch) : List Value := [.int .i64 c.kind, .int .i64 c.key, .int .u64 c.val]
def chCells (l : List Ch) : List Value := l.flatMap Ch.cs

/-! locks: (key, owner), whether alone -/
abbrev Locks := List ((Int × Int) × Bool)
def lkBusy (L : Locks) (owner key : Int) (alone was : Bool) : Bool := L.any fun p => p.1.1 == key && (p.1.2 != owner && (p.2 || (alone || was)))
def lkTake (L : Locks) (owner key : Int) (alone : Bool) : Locks × Int :=
  if lkBusy L owner key alone ((look L (key, owner)).getD false) = true then (L, 120)
  else if (look L (key, owner)).isSome = false ∧ 64 ≤ L.length then (L, 5)
  else (put L (key, owner) ((look L (key, owner)).getD false || alone), 0)
def lkDrop (L : Locks) (owner : Int) : Locks := L.filter fun p => p.1.2 != owner

/-! keys -/
structure KW where
  list : List Ch
  prep : Bool
structure KV where
  vals : List Int
  there : List Bool
  works : List (Int × KW)
  locks : Locks
def chAt (l : List Ch) (key : Int) : Option Nat := l.findIdx? fun c => c.key == key
def KV.touch (s : KV) (n key : Int) (alone : Bool) : KV × Int :=
  if n < 1 ∨ key < 0 ∨ 16 ≤ key then (s, 1)
  else match look s.works n with
    | some w => if w.prep then (s, 7) else if (lkTake s.locks n key alone).2 = 0 then ({ s with locks := (lkTake s.locks n key alone).1 }, 0) else (s, (lkTake s.locks n key alone).2)
    | none => if (lkTake s.locks n key alone).2 = 0 then ({ s with locks := (lkTake s.locks n key alone).1, works := put s.works n ⟨[], false⟩ }, 0) else (s, (lkTake s.locks n key alone).2)
def chPut (l : List Ch) (c : Ch) : List Ch := match chAt l c.key with
  | some i => l.set i c
  | none => l ++ [c]
def KV.change (s : KV) (n : Int) (c : Ch) : KV × Int :=
  if (s.touch n c.key true).2 = 0 then ({ (s.touch n c.key true).1 with works := put (s.touch n c.key true).1.works n ⟨chPut ((look (s.touch n c.key true).1.works n).getD ⟨[], false⟩).list c, false⟩ }, 0) else (s, (s.touch n c.key true).2)
def KV.gone (s : KV) (n : Int) : KV := { s with locks := lkDrop s.locks n, works := dele s.works n }
def KV.prepare (s : KV) (n : Int) : KV × List Ch × Int :=
  if n < 1 then (s, [], 1)
  else match look s.works n with
    | none => (s.gone n, [], 0)
    | some w => if w.prep then (s, [], 7) else if w.list = [] then (s.gone n, [], 0) else ({ s with works := put s.works n ⟨w.list, true⟩ }, w.list, 0)
def chDo (v : List Int × List Bool) (c : Ch) : List Int × List Bool := (v.1.set c.key.toNat c.val, v.2.set c.key.toNat (c.kind == 1))
def KV.apply (s : KV) (l : List Ch) : KV := { s with vals := (l.foldl chDo (s.vals, s.there)).1, there := (l.foldl chDo (s.vals, s.there)).2 }
def KV.commit (s : KV) (n : Int) : KV × Int := if n < 1 then (s, 1) else ((s.apply ((look s.works n).map (·.list) |>.getD [])).gone n, 0)
def KV.backout (s : KV) (n : Int) : KV × Int := if n < 1 then (s, 1) else (s.gone n, 0)
/-- whether a change may be among a work's changes of keys -/
def chFit (c : Ch) : Bool := (c.kind == 1 || (c.kind == 2 && c.val == 0)) && (decide (0 ≤ c.key) && decide (c.key < 16))
/-- a work's changes of keys: no key twice, each one right -/
def chGood (l : List Ch) : Prop := (l.map (·.key)).Nodup ∧ ∀ c ∈ l, chFit c = true ∧ U64 c.val
theorem nats_le : ∀ (n : Nat) (l : List Nat), l.Nodup → (∀ x ∈ l, x < n) → l.length ≤ n
  | 0, l, _, h => by
    cases l with
    | nil => simp
    | cons x l => exact absurd (h x List.mem_cons_self) (by omega)
  | n + 1, l, hn, h => by
    have h1 := nats_le n (l.erase n) (hn.erase n) (fun x hx => by
      have := (hn.mem_erase_iff).1 hx
      have h2 := h x this.2
      have := this.1
      omega)
    by_cases hm : n ∈ l
    · rw [List.length_erase_of_mem hm] at h1
      omega
    · rw [List.erase_of_not_mem hm] at h1
      omega
theorem chFit_key {c : Ch} (h : chFit c = true) : 0 ≤ c.key ∧ c.key < 16 ∧ (c.kind = 1 ∨ c.kind = 2) := by
  unfold chFit at h
  simp at h
  omega
theorem chGood_len {l : List Ch} (h : chGood l) : l.length ≤ 16 := by
  have h1 := nats_le 16 ((l.map (·.key)).map Int.toNat) (by
    rw [List.nodup_iff_pairwise_ne, List.pairwise_map]
    have h0 := h.1
    rw [List.nodup_iff_pairwise_ne] at h0
    refine List.Pairwise.imp_of_mem ?_ h0
    intro a b ha hb hab e
    obtain ⟨c, hc, rfl⟩ := List.mem_map.1 ha
    obtain ⟨d, hd, rfl⟩ := List.mem_map.1 hb
    have h1 := chFit_key (h.2 c hc).1
    have h2 := chFit_key (h.2 d hd).1
    apply hab
    omega) (fun x hx => by
    obtain ⟨y, hy, rfl⟩ := List.mem_map.1 hx
    obtain ⟨c, hc, rfl⟩ := List.mem_map.1 hy
    have := chFit_key (h.2 c hc).1
    omega)
  simpa using h1
theorem chPut_good {l : List Ch} {c : Ch} (h : chGood l) (hc : chFit c = true ∧ U64 c.val) : chGood (chPut l c) := by
  unfold chPut
  cases hi : chAt l c.key with
  | some i =>
    dsimp only
    unfold chAt at hi
    obtain ⟨hil, hik, _⟩ := List.findIdx?_eq_some_iff_getElem.1 hi
    have hik : l[i].key = c.key := by simpa using hik
    refine ⟨?_, fun d hd => ?_⟩
    · rw [List.map_set, ← hik]
      have : (l.map (·.key)).set i l[i].key = l.map (·.key) := by
        apply List.ext_getElem?
        intro j
        rw [List.getElem?_set]
        by_cases hij : i = j
        · subst hij
          rw [if_pos rfl, if_pos (by simpa using hil), List.getElem?_map, List.getElem?_eq_getElem hil]
          rfl
        · rw [if_neg hij]
      rw [this]
      exact h.1
    · rcases List.mem_or_eq_of_mem_set hd with hd | rfl
      · exact h.2 d hd
      · exact hc
  | none =>
    dsimp only
    unfold chAt at hi
    rw [List.findIdx?_eq_none_iff] at hi
    refine ⟨?_, fun d hd => ?_⟩
    · rw [List.map_append, List.nodup_append]
      refine ⟨h.1, by simp, fun a ha b hb => ?_⟩
      obtain ⟨d, hd, rfl⟩ := List.mem_map.1 ha
      obtain rfl : b = c.key := by simpa using hb
      simpa using hi d hd
    · rcases List.mem_append.1 hd with hd | hd
      · exact h.2 d hd
      · obtain rfl := List.mem_singleton.1 hd; exact hc
def KV.good (s : KV) : Prop := ∀ p ∈ s.works, chGood p.2.list
def kvRight : List Ch → List Int → Bool
  | [], _ => true
  | c :: l, seen => chFit c && (!(seen.contains c.key) && kvRight l (c.key :: seen))
/-- locks for all changes, or the first fault -/
def lkAll (L : Locks) (n : Int) : List Ch → Locks × Int
  | [] => (L, 0)
  | c :: l => if (lkTake L n c.key true).2 = 0 then lkAll (lkTake L n c.key true).1 n l else (L, (lkTake L n c.key true).2)
def KV.restore (s : KV) (n : Int) (l : List Ch) : KV × Int :=
  if n < 1 then (s, 1)
  else if kvRight l [] = false then (s, 1)
  else if (look s.works n).isSome then (s, 7)
  else if (lkAll s.locks n l).2 ≠ 0 then ({ s with locks := lkDrop (lkAll s.locks n l).1 n }, (lkAll s.locks n l).2)
  else if l = [] then ({ s with locks := (lkAll s.locks n l).1 }, 0)
  else ({ s with locks := (lkAll s.locks n l).1, works := put s.works n ⟨l, true⟩ }, 0)

/-! a queue -/
structure QI where
  num : Int
  val : Int
  work : Int
  deriving DecidableEq
structure QW where
  n : Int
  list : List Ch
  prep : Bool
structure QU where
  items : List QI
  works : List QW
  given : Int
def QI.cs (x : QI) : List Value := [.int .i64 x.num, .int .u64 x.val, .int .i64 x.work]
def qiCells (l : List QI) : List Value := l.flatMap QI.cs
def QU.find (q : QU) (n : Int) : Option QW := q.works.find? fun w => w.n == n
def QU.fit (q : QU) (n : Int) : Int := if n < 1 then 1 else if ((q.find n).map (·.prep)).getD false then 7 else 0
def chPuts (l : List Ch) : Nat := (l.filter fun c => c.kind == 3).length
def QU.room (q : QU) : Int := min (16 - q.items.length - ((q.works.map fun w => chPuts w.list).sum : Nat)) (4611686018427387904 - (q.given + 1) - ((q.works.map fun w => chPuts w.list).sum : Nat))
/-- a change behind a work's others -/
def qNote (l : List QW) (n : Int) (c : Ch) : List QW :=
  match l with
  | [] => [⟨n, [c], false⟩]
  | w :: r => if w.n == n then ⟨w.n, w.list ++ [c], w.prep⟩ :: r else w :: qNote r n c
def QU.note (q : QU) (n : Int) (c : Ch) : QU := { q with works := qNote q.works n c }
def QU.put (q : QU) (n val : Int) : QU × Int :=
  if q.fit n ≠ 0 then (q, q.fit n) else if q.room < 1 then (q, 5) else (q.note n ⟨3, 0, val⟩, 0)
/-- the front item that a work has not taken -/
def qFront (l : List QI) (n : Int) : Option Nat := l.findIdx? fun x => x.work != n
def QU.take (q : QU) (n : Int) : QU × Int × Int :=
  if q.fit n ≠ 0 then (q, 0, q.fit n)
  else match qFront q.items n with
    | none => (q, 0, 140)
    | some i => if (q.items.getD i ⟨0, 0, 0⟩).work ≠ 0 then (q, 0, 120) else
        (({ q with items := q.items.set i { q.items.getD i ⟨0, 0, 0⟩ with work := n } } : QU).note n ⟨4, (q.items.getD i ⟨0, 0, 0⟩).num, (q.items.getD i ⟨0, 0, 0⟩).val⟩, (q.items.getD i ⟨0, 0, 0⟩).val, 0)
/-- a work is prepared -/
def qPrep (l : List QW) (n : Int) : List QW :=
  match l with
  | [] => []
  | w :: r => if w.n == n then ⟨w.n, w.list, true⟩ :: r else w :: qPrep r n
def QU.prepare (q : QU) (n : Int) : QU × List Ch × Int :=
  if q.fit n ≠ 0 then (q, [], q.fit n)
  else match q.find n with
    | none => (q, [], 0)
    | some w => ({ q with works := qPrep q.works n }, w.list, 0)
def QU.gone (q : QU) (n : Int) : QU := { q with works := q.works.filter fun w => w.n != n }
/-- an item that a commit puts in -/
def qDo (q : QU) (c : Ch) : QU := if c.kind == 3 then { q with given := q.given + 1, items := q.items ++ [⟨q.given + 1, c.val, 0⟩] } else q
def QU.commit (q : QU) (n : Int) : QU × Int :=
  if n < 1 then (q, 1) else ((((q.find n).map (·.list)).getD [] |>.foldl qDo { q with items := q.items.filter fun x => x.work != n }).gone n, 0)
def QU.backout (q : QU) (n : Int) : QU × Int :=
  if n < 1 then (q, 1) else (({ q with items := q.items.map fun x => if x.work == n then { x with work := 0 } else x } : QU).gone n, 0)
/-- how many items are taken from the front, if the changes are right -/
def qRight (items : List QI) : List Ch → Nat → Bool
  | [], _ => true
  | c :: l, front => if c.kind == 3 && c.key == 0 then qRight items l front
    else if c.kind == 4 && (decide (front < items.length) && decide (items.getD front ⟨0, 0, 0⟩ = ⟨c.key, c.val, 0⟩)) then qRight items l (front + 1)
    else false
def QU.right (q : QU) (l : List Ch) : Bool := qRight q.items l 0 && decide ((chPuts l : Int) ≤ max q.room 0)
def qRedo (n : Int) (v : QU × Nat) (c : Ch) : QU × Nat :=
  if c.kind == 4 then (({ v.1 with items := v.1.items.set v.2 { v.1.items.getD v.2 ⟨0, 0, 0⟩ with work := n } } : QU).note n c, v.2 + 1) else (v.1.note n c, v.2)
def QU.restore (q : QU) (n : Int) (l : List Ch) : QU × Int :=
  if n < 1 then (q, 1) else if q.right l = false then (q, 1) else if (q.find n).isSome then (q, 7)
  else ({ (l.foldl (qRedo n) (q, 0)).1 with works := qPrep (l.foldl (qRedo n) (q, 0)).1.works n }, 0)

/-! both -/
structure RS where
  kv : KV
  qu : QU
  p0 : List (Int × Bool)
  p1 : List (Int × Bool)
def RS.fit (r : RS) (n : Int) : Int := if n < 1 then 1 else if (look r.p0 n).getD false || (look r.p1 n).getD false then 7 else 0
def RS.change (r : RS) (n : Int) (c : Ch) : RS × Int := if r.fit n ≠ 0 then (r, r.fit n) else ({ r with kv := (r.kv.change n c).1 }, (r.kv.change n c).2)
def RS.push (r : RS) (n val : Int) : RS × Int := if r.fit n ≠ 0 then (r, r.fit n) else ({ r with qu := (r.qu.put n val).1 }, (r.qu.put n val).2)
def RS.pop (r : RS) (n : Int) : RS × Int × Int := if r.fit n ≠ 0 then (r, 0, r.fit n) else ({ r with qu := (r.qu.take n).1 }, (r.qu.take n).2.1, (r.qu.take n).2.2)
def pMark (p : List (Int × Bool)) (n : Int) (l : List Ch) : List (Int × Bool) := if l = [] then p else put p n true
def RS.prepare (r : RS) (n : Int) : RS × List Ch × Int :=
  if r.fit n ≠ 0 then (r, [], r.fit n)
  else ({ kv := (r.kv.prepare n).1, qu := (r.qu.prepare n).1, p0 := pMark r.p0 n (r.kv.prepare n).2.1, p1 := pMark r.p1 n (r.qu.prepare n).2.1 }, (r.kv.prepare n).2.1 ++ (r.qu.prepare n).2.1, 0)
def RS.commit (r : RS) (n : Int) : RS × Int := if n < 1 then (r, 1) else ({ kv := (r.kv.commit n).1, qu := (r.qu.commit n).1, p0 := dele r.p0 n, p1 := dele r.p1 n }, 0)
def RS.backout (r : RS) (n : Int) : RS × Int := if n < 1 then (r, 1) else ({ kv := (r.kv.backout n).1, qu := (r.qu.backout n).1, p0 := dele r.p0 n, p1 := dele r.p1 n }, 0)
def chKv (c : Ch) : Bool := c.kind == 1 || c.kind == 2
/-- the front changes, of keys -/
def chFront (l : List Ch) : List Ch := l.takeWhile chKv
def chRest (l : List Ch) : List Ch := l.dropWhile chKv
def RS.restore (r : RS) (n : Int) (l : List Ch) : RS × Int :=
  if n < 1 then (r, 1)
  else if (chRest l).any chKv then (r, 3)
  else if (r.kv.restore n (chFront l)).2 ≠ 0 then ({ r with kv := (r.kv.restore n (chFront l)).1 }, (r.kv.restore n (chFront l)).2)
  else if (r.qu.restore n (chRest l)).2 ≠ 0 then ({ r with kv := if chFront l = [] then (r.kv.restore n (chFront l)).1 else ((r.kv.restore n (chFront l)).1.backout n).1 }, (r.qu.restore n (chRest l)).2)
  else ({ kv := (r.kv.restore n (chFront l)).1, qu := (r.qu.restore n (chRest l)).1, p0 := pMark r.p0 n (chFront l), p1 := pMark r.p1 n (chRest l) }, 0)
/-- what is committed -/
structure Im where
  pairs : List (Int × Int)
  items : List Int
  next : Int
def KV.pairs (s : KV) : List (Int × Int) := (List.range 16).filterMap fun k => if s.there.getD k false then some ((k : Int), s.vals.getD k 0) else none
def RS.image (r : RS) : Im := ⟨r.kv.pairs, r.qu.items.map (·.val), r.qu.given + 1⟩
def RS.new : RS := ⟨⟨List.replicate 16 0, List.replicate 16 false, [], []⟩, ⟨[], [], 0⟩, [], []⟩
end Go.Proofs.Ytobljkhidgbeoaa.Oct
/- Resources in memory. -/
namespace Go.Proofs.Ytobljkhidgbeoaa.Oct
open Go.RowKit Go.Proofs.YtobljkhidgbeoaaW.PrintWords Go.Proofs.Ytobljkhidgbeoaa.M
set_option linter.unusedVariables false
set_option linter.unusedSimpArgs false
/-- the cells of resources -/
structure Raw where
  vals : List Int
  there : List Bool
  wm : Value
  lm : Value
  iv : Value
  wv : Value
  given : Int
  p0 : Value
  p1 : Value
def Raw.ok (r : Raw) : Prop := r.vals.length = 16 ∧ r.there.length = 16
def Raw.cells (r : Raw) : Array Value := (r.vals.map (Value.int .u64) ++ (r.there.map Value.bool ++ [r.wm, r.lm, r.iv, r.wv, .int .i64 r.given, r.p0, r.p1])).toArray
def Raw.obj (r : Raw) : Obj := .cells r.cells 87 (0, 0)
theorem Raw.size {r : Raw} (h : r.ok) : r.cells.size = 39 := by simp [Raw.cells, h.1, h.2]
theorem Raw.at {r : Raw} (h : r.ok) (j : Nat) : r.cells[32 + j]? = [r.wm, r.lm, r.iv, r.wv, .int .i64 r.given, r.p0, r.p1][j]? := by
  unfold Raw.cells
  rw [List.getElem?_toArray, List.getElem?_append_right (by simp [h.1]; omega), List.getElem?_append_right (by simp [h.1, h.2]; omega)]
  congr 1
  simp [h.1, h.2]
  omega
theorem Raw.val {r : Raw} (h : r.ok) {k : Nat} (hk : k < 16) : r.cells[k]? = some (.int .u64 (r.vals.getD k 0)) := by
  unfold Raw.cells
  rw [List.getElem?_toArray, List.getElem?_append_left (by simp [h.1]; omega), List.getElem?_map, List.getElem?_eq_getElem (by rw [h.1]; exact hk)]
  simp [List.getD_eq_getElem?_getD, h.1, hk]
theorem Raw.has {r : Raw} (h : r.ok) {k : Nat} (hk : k < 16) : r.cells[16 + k]? = some (.bool (r.there.getD k false)) := by
  unfold Raw.cells
  rw [List.getElem?_toArray, List.getElem?_append_right (by simp [h.1]), List.getElem?_append_left (by simp [h.1, h.2]; omega), List.getElem?_map]
  simp only [List.length_map, h.1, Nat.add_sub_cancel_left]
  rw [List.getElem?_eq_getElem (by rw [h.2]; exact hk)]
  simp [List.getD_eq_getElem?_getD, h.2, hk]
theorem set_append_right' {α : Type} (l1 l2 : List α) (i : Nat) (v : α) (h : l1.length ≤ i) : (l1 ++ l2).set i v = l1 ++ l2.set (i - l1.length) v := by
  rw [List.set_append, if_neg (by omega)]
theorem Raw.set32 {r : Raw} (h : r.ok) (j : Nat) (v : Value) : r.cells.setIfInBounds (32 + j) v = (r.vals.map (Value.int .u64) ++ (r.there.map Value.bool ++ [r.wm, r.lm, r.iv, r.wv, .int .i64 r.given, r.p0, r.p1].set j v)).toArray := by
  unfold Raw.cells
  rw [List.setIfInBounds_toArray, set_append_right' _ _ _ _ (by simp [h.1]; omega), set_append_right' _ _ _ _ (by simp [h.1, h.2]; omega)]
  have e : 32 + j - (r.vals.map (Value.int .u64)).length - (r.there.map Value.bool).length = j := by simp [h.1, h.2]; omega
  rw [e]
theorem Raw.set_wm {r : Raw} (h : r.ok) (v : Value) : r.cells.setIfInBounds 32 v = ({ r with wm := v } : Raw).cells := Raw.set32 h 0 v
theorem Raw.set_lm {r : Raw} (h : r.ok) (v : Value) : r.cells.setIfInBounds 33 v = ({ r with lm := v } : Raw).cells := Raw.set32 h 1 v
theorem Raw.set_iv {r : Raw} (h : r.ok) (v : Value) : r.cells.setIfInBounds 34 v = ({ r with iv := v } : Raw).cells := Raw.set32 h 2 v
theorem Raw.set_wv {r : Raw} (h : r.ok) (v : Value) : r.cells.setIfInBounds 35 v = ({ r with wv := v } : Raw).cells := Raw.set32 h 3 v
theorem Raw.set_given {r : Raw} (h : r.ok) (x : Int) : r.cells.setIfInBounds 36 (.int .i64 x) = ({ r with given := x } : Raw).cells := Raw.set32 h 4 _
theorem Raw.set_p0 {r : Raw} (h : r.ok) (v : Value) : r.cells.setIfInBounds 37 v = ({ r with p0 := v } : Raw).cells := Raw.set32 h 5 v
theorem Raw.set_p1 {r : Raw} (h : r.ok) (v : Value) : r.cells.setIfInBounds 38 v = ({ r with p1 := v } : Raw).cells := Raw.set32 h 6 v
theorem Raw.set_val {r : Raw} (h : r.ok) {k : Nat} (hk : k < 16) (x : Int) : r.cells.setIfInBounds k (.int .u64 x) = ({ r with vals := r.vals.set k x } : Raw).cells := by
  unfold Raw.cells
  rw [List.setIfInBounds_toArray, List.set_append, if_pos (by simp [h.1, hk]), List.map_set]
theorem Raw.set_has {r : Raw} (h : r.ok) {k : Nat} (hk : k < 16) (x : Bool) : r.cells.setIfInBounds (16 + k) (.bool x) = ({ r with there := r.there.set k x } : Raw).cells := by
  unfold Raw.cells
  rw [List.setIfInBounds_toArray, set_append_right' _ _ _ _ (by simp [h.1]), List.set_append, if_pos (by simp [h.1, h.2, hk]), List.map_set]
  simp [h.1]
/-- a cell of a block that is known -/
theorem cell_in {W : World} {b i : Nat} {cs : Array Value} {t : TypeId} {v : Value} (h : W.heap[b]? = some (.cells cs t (0, 0))) (hi : cs[i]? = some v) : W.cell? ⟨b, i, none⟩ = some v ∧ W.frozen? ⟨b, i, none⟩ = false := by
  simp [World.cell?, World.frozen?, h, hi]
theorem Raw.facts {r : Raw} (h : r.ok) {W : World} {b : Nat} (hb : W.heap[b]? = some r.obj) :
    W.cell? ⟨b, 32, none⟩ = some r.wm ∧ W.cell? ⟨b, 33, none⟩ = some r.lm ∧ W.cell? ⟨b, 34, none⟩ = some r.iv ∧ W.cell? ⟨b, 35, none⟩ = some r.wv ∧ W.cell? ⟨b, 36, none⟩ = some (.int .i64 r.given) ∧ W.cell? ⟨b, 37, none⟩ = some r.p0 ∧ W.cell? ⟨b, 38, none⟩ = some r.p1 :=
  ⟨(cell_in hb (Raw.at h 0)).1, (cell_in hb (Raw.at h 1)).1, (cell_in hb (Raw.at h 2)).1, (cell_in hb (Raw.at h 3)).1, (cell_in hb (Raw.at h 4)).1, (cell_in hb (Raw.at h 5)).1, (cell_in hb (Raw.at h 6)).1⟩
theorem Raw.thaw {r : Raw} {W : World} {b : Nat} (hb : W.heap[b]? = some r.obj) (i : Nat) : W.frozen? ⟨b, i, none⟩ = false := by
  have hb : W.heap[b]? = some (.cells r.cells 87 (0, 0)) := hb
  simp [World.frozen?, hb]

theorem heap1 {W : World} {b : Nat} {x : Value} {t : TypeId} (h : W.heap[b]? = some (.cells #[x] t (0, 0))) : W.cell? ⟨b, 0, none⟩ = some x ∧ W.frozen? ⟨b, 0, none⟩ = false := cell_in h rfl
theorem heap2 {W : World} {b : Nat} {x y : Value} {t : TypeId} (h : W.heap[b]? = some (.cells #[x, y] t (0, 0))) :
    W.cell? ⟨b, 0, none⟩ = some x ∧ W.cell? ⟨b, 1, none⟩ = some y ∧ W.frozen? ⟨b, 0, none⟩ = false ∧ W.frozen? ⟨b, 1, none⟩ = false := ⟨(cell_in h rfl).1, (cell_in h rfl).1, (cell_in h (i := 0) rfl).2, (cell_in h (i := 1) rfl).2⟩
theorem heap3 {W : World} {b : Nat} {x y z : Value} {t : TypeId} (h : W.heap[b]? = some (.cells #[x, y, z] t (0, 0))) :
    W.cell? ⟨b, 0, none⟩ = some x ∧ W.cell? ⟨b, 1, none⟩ = some y ∧ W.cell? ⟨b, 2, none⟩ = some z ∧ W.frozen? ⟨b, 0, none⟩ = false ∧ W.frozen? ⟨b, 1, none⟩ = false ∧ W.frozen? ⟨b, 2, none⟩ = false := ⟨(cell_in h rfl).1, (cell_in h rfl).1, (cell_in h rfl).1, (cell_in h (i := 0) rfl).2, (cell_in h (i := 1) rfl).2, (cell_in h (i := 2) rfl).2⟩

/-! the keys of maps -/
def ekI (a : Int) : Value := .int .i64 a
def evP (q : Nat) : Value := .pointer (some ⟨q, 0, none⟩)
def evB (b : Bool) : Value := .bool b
/-- (key, owner) -/
def ekL (p : Int × Int) : Value := .agg #[.int .i64 p.1, .int .i64 p.2]
def goodL (p : Int × Int) : Prop := I64 p.1 ∧ I64 p.2
theorem wf_of {a : Int} (h : I64 a) : (Lit.int .i64 a).wf = true := WalkArith.wf_i64 (by unfold I64 at h; omega)
theorem keyI : KeyE Try.prog 3 ekI I64 := by
  have K := KeyE.int (P := Try.prog) (k := 3) Try.underlying3
  exact ⟨fun ha hb e => K.inj (wf_of ha) (wf_of hb) e, fun w em a h => K.check w em (wf_of h), fun w x hx es hes => K.find w (wf_of hx) es (fun e he => by obtain ⟨y, hy, e1⟩ := hes e he; exact ⟨y, wf_of hy, e1⟩), fun w a h => K.stays w (wf_of h)⟩
theorem stood_lock : Try.prog.stoodInHeld 147 = false := by kernel_rfl
theorem eq_lock (w : World) (a b : Int × Int) : (Op.equal 147 (ekL a) (ekL b)).run Try.prog w = .ok (decide (a = b)) w := by
  have u3 := Try.underlying3
  obtain ⟨a1, a2⟩ := a
  obtain ⟨b1, b2⟩ := b
  have h1 := run_equalIn_agg (P := Try.prog) w 9999 147 #[.int .i64 a1, .int .i64 a2] #[.int .i64 b1, .int .i64 b2] (by kernel_rfl) stood_lock
  unfold Op.equal Op.maxDepth ekL
  rw [show (10000 : Nat) = 9999 + 1 from rfl, h1]
  simp only [Program.fieldsOf, Try.underlying147]
  go_simp
  by_cases h1 : a1 = b1 <;> by_cases h2 : a2 = b2 <;> simp [h1, h2]
theorem check_lock (w : World) (em : Bool) (a : Int × Int) : (Instr.checkKey em 10000 147 (ekL a)).run Try.prog w = .ok () w := by
  have u3 := Try.underlying3
  have hi : ∀ (n : Nat) (x : Int) (W : World), (Instr.checkKey em (n + 1) 3 (.int .i64 x)).run Try.prog W = .ok () W := fun n x W => by
    rw [Instr.checkKey]
    simp [run_underlying u3]
  have h1 := hi 9998
  rw [show (10000 : Nat) = 9999 + 1 from rfl, Instr.checkKey]
  simp only [Sem.run_bind, run_underlying Try.underlying147, ekL, Result.andThen_ok]
  simp only [← Array.forIn_toList, List.forIn_cons, List.forIn_nil]
  go_simp
theorem stays_lock (w : World) (a : Int × Int) : (Instr.keyThatStays (ekL a) (ekL a)).run Try.prog w = .ok (ekL a) w := by
  have h : Instr.sameBits 10000 (ekL a) (ekL a) = true := by simp [Instr.sameBits, ekL]
  simp [Instr.keyThatStays, h]
theorem keyL : KeyE Try.prog 147 ekL goodL :=
  KeyE.asked Try.underlying147 (fun {a b} _ _ e => by
    unfold ekL at e
    injection e with e
    simp at e
    exact Prod.ext e.1 e.2) (fun w em {a} _ => check_lock w em a) (fun w a b _ _ => eq_lock w a b) (fun w {a} _ => stays_lock w a)
end Go.Proofs.Ytobljkhidgbeoaa.Oct
