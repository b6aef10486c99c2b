import Derived.ProofKit
import Derived.SizedLaws
import Derived.Test.YtobljkhidgbeoaaZ01
import Derived.Test.YtobljkhidgbeoaaZ38
/- HOW AN ARGUMENT'S DATA ARE READ, kind by kind: numbers, bools, slices, structs. No function of the program is named. -/
namespace Go.Proofs.Ytobljkhidgbeoaa.Rd
open Go.RowKit Go.Proofs.YtobljkhidgbeoaaW.PrintWords Go.Proofs.Ytobljkhidgbeoaa.M
set_option linter.unusedVariables false
section
variable {H : Type} (enc : TypeId × Value → H) (P : Program) (w : World) (base : Nat) (spare : Nat → Bool) (held : Bool)
/-- a value of type T, read as data, is one of kind d; what is good of it -/
structure Rd {α : Type} (T : TypeId) (d : Kd α) (G : α → Prop) : Prop where
  sz : P.cellsOf T = d.sz
  read : ∀ fuel cs x, DataW.trod enc P w base spare held fuel T cs = some x → (∀ n ∈ DataW.weights P T x.1, n ≤ reachBytes) → ∃ a, d.K w a cs ∧ G a
def offs (P : Program) (ts : List TypeId) (i : Nat) : Nat := ((ts.take i).map P.cellsOf).sum
structure RdL {α : Type} (ts : List TypeId) (d : Kd α) (G : α → Prop) : Prop where
  sz : (ts.map P.cellsOf).sum = d.sz
  read : ∀ fuel cs (xs : List (DataW H × List MemPlace)), cs.length = d.sz → xs.length = ts.length →
    (∀ (i : Nat) (t : TypeId), ts[i]? = some t → DataW.trod enc P w base spare held fuel t ((cs.drop (offs P ts i)).take (P.cellsOf t)) = xs[i]?) →
    (∀ n ∈ DataW.weightsEach P ts (xs.map (·.1)), n ≤ reachBytes) → ∃ a, d.K w a cs ∧ G a
variable {enc P w base spare held}
theorem Rd.int {T : TypeId} {k : IntKind} (hu : P.underlying T = some (.int k)) (hc : P.cellsOf T = 1) : Rd enc P w base spare held T (Kd.int k) (fun n => (Lit.int k n).wf = true) := by
  refine ⟨hc, fun fuel cs x h _ => ?_⟩
  obtain ⟨n, rfl, rfl, hw⟩ := DataW.trod_int hu h
  exact ⟨n, rfl, hw⟩
theorem RdL.one {α : Type} {T : TypeId} {d : Kd α} {G : α → Prop} (h : Rd enc P w base spare held T d G) : RdL enc P w base spare held [T] d G := by
  refine ⟨by simpa using h.sz, fun fuel cs xs hl hx hf hw => ?_⟩
  match xs, hx with
  | [x0], _ =>
    have := hf 0 T rfl
    simp only [offs, List.take_zero, List.map_nil, List.sum_nil, List.drop_zero, List.getElem?_cons_zero] at this
    rw [List.take_of_length_le (by rw [hl, h.sz]; exact Nat.le_refl _)] at this
    exact h.read fuel cs x0 this (fun n hn => hw n (by simpa [DataW.weightsEach] using hn))
theorem RdL.cons {α β : Type} {T : TypeId} {ts : List TypeId} {d0 : Kd α} {d1 : Kd β} {G0 : α → Prop} {G1 : β → Prop} (h0 : Rd enc P w base spare held T d0 G0) (h1 : RdL enc P w base spare held ts d1 G1) :
    RdL enc P w base spare held (T :: ts) (Kd.pair d0 d1) (fun a => G0 a.1 ∧ G1 a.2) := by
  refine ⟨?_, fun fuel cs xs hl hx hf hw => ?_⟩
  · show (P.cellsOf T :: ts.map P.cellsOf).sum = d0.sz + d1.sz
    rw [List.sum_cons, h0.sz, h1.sz]
  · match xs, hx with
    | x0 :: xr, hx =>
      have hl' : cs.length = d0.sz + d1.sz := hl
      have f0 := hf 0 T rfl
      simp only [offs, List.take_zero, List.map_nil, List.sum_nil, List.drop_zero, List.getElem?_cons_zero] at f0
      obtain ⟨a, ka, ga⟩ := h0.read fuel _ x0 f0 (fun n hn => hw n (by simp only [List.map_cons, DataW.weightsEach]; exact List.mem_append_left _ hn))
      obtain ⟨b, kb, gb⟩ := h1.read fuel (cs.drop d0.sz) xr (by rw [List.length_drop]; omega) (by simpa using hx) (fun i t hi => by
        have := hf (i + 1) t (by simpa using hi)
        simp only [offs, List.take_succ_cons, List.map_cons, List.sum_cons, List.getElem?_cons_succ] at this
        rw [List.drop_drop, ← h0.sz]
        exact this) (fun n hn => hw n (by simp only [List.map_cons, DataW.weightsEach]; exact List.mem_append_right _ hn))
      refine ⟨(a, b), ⟨cs.take d0.sz, cs.drop d0.sz, (List.take_append_drop _ _).symm, ?_, kb⟩, ga, gb⟩
      rw [h0.sz] at ka
      exact ka
theorem Rd.struct {α : Type} {T : TypeId} {ts : List TypeId} {d : Kd α} {G : α → Prop} {fs : Array Field} (hu : P.underlying T = some (.struct fs)) (ht : fs.toList.map (·.type) = ts) (ho : fs.toList.map (·.offset) = (List.range ts.length).map (offs P ts)) (hc : P.cellsOf T = d.sz)
    (h : RdL enc P w base spare held ts d G) : Rd enc P w base spare held T d G := by
  refine ⟨hc, fun fuel cs x hx hw => ?_⟩
  obtain ⟨xs, n, _, rfl, hl, hlen, hf⟩ := DataW.trod_struct hu hx
  have hn : ts.length = fs.size := by rw [← ht]; simp
  refine h.read n cs xs (by rw [hl, hc]) (by rw [hlen, hn]) (fun i t hi => ?_) (fun m hm => hw m ?_)
  · have hi' : i < fs.size := by rw [← hn]; exact (List.getElem?_eq_some_iff.1 hi).1
    have hfi : fs[i]? = some fs[i] := Array.getElem?_eq_getElem hi'
    have e1 : fs[i].type = t := by
      rw [← ht] at hi
      simpa [List.getElem?_map, hi'] using hi
    have e2 : fs[i].offset = offs P ts i := by
      have := congrArg (fun l => l[i]?) ho
      simpa [List.getElem?_map, hi', hn] using this
    have := hf i fs[i] hfi
    rw [e1, e2] at this
    exact this
  · have : DataW.weights P T (.agg (xs.map (·.1))) = DataW.weightsEach P ts (xs.map (·.1)) := by
      simp only [DataW.weights, hu, ht]
    rw [this]
    exact hm
theorem mem_weightsAll {e : TypeId} {n : Nat} : ∀ {l : List (DataW H)} {y : DataW H}, y ∈ l → n ∈ DataW.weights P e y → n ∈ DataW.weightsAll P e l
  | d :: r, y, hy, hn => by
    simp only [DataW.weightsAll]
    rcases List.mem_cons.1 hy with rfl | hy
    · exact List.mem_append_left _ hn
    · exact List.mem_append_right _ (mem_weightsAll hy hn)
theorem addr_add_add (a : Addr) (i j : Nat) : (a.add i).add j = a.add (i + j) := by
  unfold Addr.add
  by_cases hi : i = 0
  · subst hi; simp
  · by_cases hj : j = 0
    · subst hj; simp
    · simp [hi, hj, Nat.add_assoc]
theorem Rd.slice {α : Type} {T e : TypeId} {E : Nat} {d : Kd α} {G : α → Prop} (hu : P.underlying T = some (.slice e)) (hc : P.cellsOf T = 1) (h : Rd enc P w base spare held e d G) :
    Rd enc P w base spare held T (Kd.slice E d) (fun xs => (∀ x ∈ xs, G x) ∧ xs.length * P.bytesOf e ≤ reachBytes) := by
  refine ⟨hc, fun fuel cs x hx hw => ?_⟩
  rcases DataW.trod_slice hu hx with ⟨rfl, rfl⟩ | ⟨a, len, cap, elems, rest, n, _, rfl, rfl, hb, hl, hm, hlen, hel, _, _⟩
  · exact ⟨[], ⟨none, 0, rfl, Nat.le_refl _, Kd.C_nil _ _⟩, (fun _ hx => nomatch hx), by simp⟩
  · have key : ∀ i : Nat, i < len → ∃ c p, w.cells? base (a.add (i * P.cellsOf e)) (P.cellsOf e) = some c ∧ d.K w p c ∧ G p := by
      intro i hi
      have := hel i hi
      rw [List.getElem?_eq_getElem (by omega)] at this
      obtain ⟨c, hcs, ht⟩ := Option.bind_eq_some_iff.1 this
      obtain ⟨p, kp, gp⟩ := h.read n c _ ht (fun m hm => hw m (by
        simp only [DataW.weights, hu]
        exact List.mem_cons_of_mem _ (List.mem_append_left _ (mem_weightsAll (List.mem_map.2 ⟨elems[i], List.getElem_mem _, rfl⟩) hm))))
      exact ⟨c, p, hcs, kp, gp⟩
    have build : ∀ m : Nat, m ≤ len → ∃ xs : List α, xs.length = m ∧ ∀ (i : Nat) (p : α), xs[i]? = some p → ∃ c, w.cells? base (a.add (i * P.cellsOf e)) (P.cellsOf e) = some c ∧ d.K w p c ∧ G p := by
      intro m
      induction m with
      | zero => intro _; exact ⟨[], rfl, fun i p hp => by simp at hp⟩
      | succ m ih =>
        intro hm
        obtain ⟨xs, hxl, hxs⟩ := ih (by omega)
        obtain ⟨c, p, hcs, kp, gp⟩ := key m (by omega)
        refine ⟨xs ++ [p], by simp [hxl], fun i q hq => ?_⟩
        rcases Nat.lt_or_ge i xs.length with hi | hi
        · rw [List.getElem?_append_left hi] at hq
          exact hxs i q hq
        · have hi' : i = xs.length := by
            have := (List.getElem?_eq_some_iff.1 hq).1
            rw [List.length_append, List.length_singleton] at this
            omega
          subst hi'
          have : p = q := by simpa using hq
          subst this
          rw [hxl]
          exact ⟨c, hcs, kp, gp⟩
    obtain ⟨xs, hxl, hxs⟩ := build len (Nat.le_refl _)
    refine ⟨xs, ⟨some a, cap, by rw [hxl], by omega, ?_⟩, ⟨fun x hx => ?_, ?_⟩⟩
    · refine ⟨rfl, by rw [hxl]; simp only [maxLen] at hm; omega, fun _ => ⟨a, rfl, fun i p hp => ?_⟩⟩
      obtain ⟨c, hcs, kp, _⟩ := hxs i p hp
      obtain ⟨_, hcl, hcell⟩ := World.cells?_some hcs
      refine ⟨c, by rw [hcl, h.sz], kp, fun k u hu => ?_⟩
      have hk : k < P.cellsOf e := by rw [← hcl]; exact (List.getElem?_eq_some_iff.1 hu).1
      have := hcell k hk
      rw [hu, addr_add_add, h.sz] at this
      exact this
    · obtain ⟨i, hi, rfl⟩ := List.getElem_of_mem hx
      obtain ⟨_, _, _, gp⟩ := hxs i _ (List.getElem?_eq_getElem hi)
      exact gp
    · have : (elems.map (·.1)).length * P.bytesOf e ≤ reachBytes := by
        refine Nat.le_trans (Nat.mul_le_mul_right _ (Nat.le_add_right _ _)) (hw ((elems.map (·.1)).length * P.bytesOf e + (rest.map (·.1)).length * P.bytesOf e |> fun _ => ((elems.map (·.1)).length + (rest.map (·.1)).length) * P.bytesOf e) ?_)
        simp only [DataW.weights, hu]
        exact List.mem_cons_self
      rw [hxl, ← hlen]
      simpa using this
theorem weights_at {ts : List TypeId} {ds : List (DataW H)} {j : Nat} {t : TypeId} {d : DataW H} (hsz : (DataW.weightsEach P ts ds).all (· ≤ reachBytes) = true) (ht : ts[j]? = some t) (hd : ds[j]? = some d) : ∀ n ∈ DataW.weights P t d, n ≤ reachBytes := fun n hn => by
  have := List.all_eq_true.1 hsz _ (DataW.weights_mem_each ht hd n hn)
  simpa using this
/-- a slice that came in, as data -/
theorem slice_arg {α : Type} {T : TypeId} {E : Nat} {d : Kd α} {G : List α → Prop} (hr : Rd enc P w base spare held T (Kd.slice E d) G) {a : Option Addr} {len cap : Nat} {dd : DataW H} {ps : List MemPlace} (hw : ∀ n ∈ DataW.weights P T dd, n ≤ reachBytes)
    (h : DataW.Trod enc P w base spare held T (.slice a len cap) dd ps) : ∃ xs : List α, len = xs.length ∧ xs.length ≤ cap ∧ d.C w a xs.length xs ∧ G xs := by
  obtain ⟨fuel, hf⟩ := h
  obtain ⟨xs, ⟨A, c, hcs, hl, hC⟩, hG⟩ := hr.read fuel _ _ hf hw
  simp [Value.cells] at hcs
  obtain ⟨rfl, h1, h2⟩ := hcs
  subst h2
  exact ⟨xs, h1, hl, hC, hG⟩
theorem slice_none {T e : TypeId} (hu : P.underlying T = some (.slice e)) {len cap : Nat} {dd : DataW H} {ps : List MemPlace} (h : DataW.Trod enc P w base spare held T (.slice none len cap) dd ps) : cap = 0 := by
  obtain ⟨fuel, hf⟩ := h
  rcases DataW.trod_slice hu hf with ⟨h1, _⟩ | ⟨a, len', cap', elems, rest, n, _, h1, _⟩
  · simp [Value.cells] at h1
    exact h1.2
  · simp [Value.cells] at h1
theorem i64b {n : Int} (h : (Lit.int .i64 n).wf = true) : -9223372036854775808 ≤ n ∧ n ≤ 9223372036854775807 := by
  have := Go.bounds_i64 h
  omega
theorem bytes_good {xs : List Int} (h : ∀ x ∈ xs, (Lit.int .u8 x).wf = true) : Bytes xs := fun x hx => Oct.byte_wf (h x hx)
end
end Go.Proofs.Ytobljkhidgbeoaa.Rd
/- How records are read as arguments; small guards of the laws. -/
namespace Go.Proofs.Ytobljkhidgbeoaa.Oct
open Go.RowKit Go.Proofs.YtobljkhidgbeoaaW.PrintWords Go.Proofs.Ytobljkhidgbeoaa.M Go.Proofs.Ytobljkhidgbeoaa.Rd
set_option linter.unusedVariables false
set_option linter.unusedSimpArgs false
section
variable {H : Type} {enc : TypeId × Value → H} {w : World} {base : Nat} {spare : Nat → Bool} {held : Bool}
theorem bytesRd : Rd enc Try.prog w base spare held 45 (Kd.slice 5 (Kd.int .u8)) (fun xs => (∀ x ∈ xs, (Lit.int .u8 x).wf = true) ∧ xs.length * Try.prog.bytesOf 5 ≤ reachBytes) :=
  Rd.slice Try.underlying45 (by kernel_rfl) (Rd.int Try.underlying5 (by kernel_rfl))
theorem bytes_len {xs : List Int} (h : xs.length * Try.prog.bytesOf 5 ≤ reachBytes) : xs.length ≤ 140737488355328 := by
  have h1 : Try.prog.bytesOf 5 = 1 := by kernel_rfl
  rw [h1] at h
  have := reachBytes_lt
  omega
abbrev recK : Kd Rc := Kd.pair (Kd.int .i64) (Kd.slice 5 (Kd.int .u8))
def RcG (o : Rc) : Prop := (Lit.int .i64 o.1).wf = true ∧ ((∀ x ∈ o.2, (Lit.int .u8 x).wf = true) ∧ o.2.length * Try.prog.bytesOf 5 ≤ reachBytes)
theorem recRd : Rd enc Try.prog w base spare held 50 recK RcG :=
  Rd.struct (ts := [3, 45]) Try.underlying50 (by rfl) (by kernel_rfl) (by kernel_rfl) (RdL.cons (Rd.int Try.underlying3 (by kernel_rfl)) (RdL.one bytesRd))
theorem recsRd : Rd enc Try.prog w base spare held 28 (Kd.slice 50 recK) (fun xs => (∀ x ∈ xs, RcG x) ∧ xs.length * Try.prog.bytesOf 50 ≤ reachBytes) :=
  Rd.slice Try.underlying28 (by kernel_rfl) recRd
end
/-- what is known of a record that is handed in -/
def RcOk (r : Rc) : Prop := (-9223372036854775808 ≤ r.1 ∧ r.1 ≤ 9223372036854775807) ∧ Bytes r.2 ∧ r.2.length ≤ 140737488355328
theorem RcG.ok {r : Rc} (h : RcG r) : RcOk r := ⟨i64b h.1, bytes_good h.2.1, bytes_len h.2.2⟩
theorem rec_arg {H : Type} {enc : TypeId × Value → H} {w : World} {base : Nat} {spare : Nat → Bool} {held : Bool} {cs : Array Value} {dd : DataW H} {ps : List MemPlace} (hw : ∀ n ∈ DataW.weights Try.prog 50 dd, n ≤ reachBytes)
    (h : DataW.Trod enc Try.prog w base spare held 50 (.agg cs) dd ps) : ∃ (f : Rc) (B : Option Addr) (c : Nat), cs = #[.int .i64 f.1, .slice B f.2.length c] ∧ Kd.C (Kd.int .u8) w B f.2.length f.2 ∧ (RcOk f ∧ f.2.length ≤ c) := by
  obtain ⟨fuel, hf⟩ := h
  obtain ⟨⟨k, d⟩, hK, hG⟩ := (recRd (w := w)).read fuel _ _ hf hw
  obtain ⟨c0, c1, e, h0, B, c, rfl, hl, hC⟩ := hK
  have h0' : c0 = [.int .i64 k] := h0
  subst h0'
  refine ⟨⟨k, d⟩, B, c, ?_, hC, RcG.ok hG, hl⟩
  have e' : cs.toList = [.int .i64 k] ++ [.slice B d.length c] := e
  cases cs
  simpa using e'
def longB (n : Nat) : Bool := (decide (200 < n) && decide (n ≤ 1024)) || decide (3000 < n)
/-- a log that is nil, or that no call made -/
def NoLog (w : World) (v : Value) : Prop := v = .pointer none ∨ ∃ b, v = .pointer (some ⟨b, 0, none⟩) ∧ w.heap[b]? = some (.cells #[.pointer none, .slice none 0 0] 70 (0, 0))
theorem NoLog.below {w w' : World} {v : Value} (h : NoLog w v) (hb : Below w.heap.size w w') : NoLog w' v := h.imp id (fun ⟨b, e, hh⟩ => ⟨b, e, blk_keep hh hb⟩)
theorem made_no (w : World) (v : Value) (h : NoLog w v) : Calls Try.prog 35 #[v] w fun e w' => e = .returned (.bool false) ∧ w' = w := by
  rcases h with rfl | ⟨b, rfl, hb⟩
  · go_enter Try.func35, Try.ntmps35
    go_wp2
    go_ret
    exact ⟨rfl, rfl⟩
  · obtain ⟨c0, c1, f0, f1⟩ := two_cells' hb
    clear hb
    go_enter Try.func35, Try.ntmps35
    go_wp2
    go_ret
    exact ⟨rfl, rfl⟩
theorem add_no (w : World) (v : Value) (k : Int) (A : Option Addr) (n c : Nat) (f : Bool) (h : NoLog w v) : Calls Try.prog 11 #[v, .agg #[.int .i64 k, .slice A n c], .bool f] w fun e w' => e = .returned (.int .i64 6) ∧ Below w.heap.size w w' := by
  have HB0 : Aside0 (Below w.heap.size w (w.alloc (.cells #[.int .i64 k, .slice A n c] 50))) := ⟨below_alloc (Below.refl _ _) _⟩
  have HN := Aside0.mk (h.below HB0.out)
  clear h
  go_enter Try.func11, Try.ntmps11
  go_wp2_with (go_at_call 35; refine (made_no _ _ HN.out).mono ?_; rintro e w' ⟨rfl, hw'⟩; have hw' := hw'.symm; subst hw')
  go_ret
  exact ⟨rfl, HB0.out⟩
theorem open_zero (w : World) (b : Nat) (x y z : Value) (h : w.heap[b]? = some (.cells #[.int .i64 0, y, z] 62 (0, 0))) : Calls Try.prog 5 #[.pointer (some ⟨b, 0, none⟩)] w fun e w' => e = .returned (.tuple #[.pointer none, .slice none 0 0, .int .i64 6]) ∧ w' = w := by
  have c0 : w.cell? ⟨b, 0, none⟩ = some (.int .i64 0) := by simp [World.cell?, h]
  clear h
  go_enter Try.func5, Try.ntmps5
  go_wp2
  refine bodyPost_ret (v := .tuple #[.pointer none, .slice none 0 0, .int .i64 6]) (by simp [results, Try.results5, go_sem]) rfl ?_
  exact ⟨rfl, rfl⟩
end Go.Proofs.Ytobljkhidgbeoaa.Oct
/- Rows of records that are read: one of them, 'great', 'Same'. -/
namespace Go.Proofs.Ytobljkhidgbeoaa.Oct
open Go.RowKit Go.Proofs.YtobljkhidgbeoaaW.PrintWords Go.Proofs.Ytobljkhidgbeoaa.M
set_option linter.unusedVariables false
set_option linter.unusedSimpArgs false
/-- a field's address behind an element's -/
theorem add_lit_add (a : Addr) (i j : Nat) : a.add (i + (j + 1)) = ⟨(a.add i).block, (a.add i).off + (j + 1), none⟩ := by
  rw [← Rd.addr_add_add]
  exact if_neg (Nat.succ_ne_zero j)
theorem rec_at {W : World} {A : Option Addr} {n : Nat} {l : List Rc} (h : recK.C W A n l) {k : Nat} (hk : k < n) (z : Rc) :
    ∃ ad B c, A = some ad ∧ W.cell? (ad.add (k * 2)) = some (.int .i64 (l.getD k z).1) ∧ W.cell? ⟨(ad.add (k * 2)).block, (ad.add (k * 2)).off + 1, none⟩ = some (.slice B (l.getD k z).2.length c) ∧ (l.getD k z).2.length ≤ c ∧ Kd.C (Kd.int .u8) W B (l.getD k z).2.length (l.getD k z).2 := by
  obtain ⟨ad, c, e, hs, hK, hcell⟩ := Kd.C_get h z (k : Int) (by omega) (by omega)
  simp only [Int.toNat_natCast] at hK hcell
  obtain ⟨c0, c1, rfl, h0, B, cc, rfl, hl, hr⟩ := hK
  have h0' : c0 = [.int .i64 (l.getD k z).1] := h0
  subst h0'
  exact ⟨ad, B, cc, e, hcell 0 _ rfl, (by rw [← add_lit_add]; exact hcell 1 _ rfl), hl, hr⟩
def greatB (l : List Rc) : Bool := decide (20 < l.length) || l.any (fun r => longB r.2.length)
theorem str_toList (xs : List Int) : (strOfNums xs).toList = xs.map fun n => UInt8.ofNat n.toNat := by
  rw [ByteArray.toList_eq]
  rfl
theorem str_back {xs : List Int} (h : Bytes xs) : (xs.map fun n => UInt8.ofNat n.toNat).map (fun b => (b.toNat : Int)) = xs := by
  rw [List.map_map]
  conv => rhs; rw [← List.map_id xs]
  apply List.map_congr_left
  intro y hy
  have := h y hy
  unfold Byte at this
  have h2 : y.toNat < 256 := by omega
  simp [Nat.mod_eq_of_lt h2]
  omega
theorem str_inj {xs ys : List Int} (hx : Bytes xs) (hy : Bytes ys) (h : (strOfNums xs).toList = (strOfNums ys).toList) : xs = ys := by
  rw [str_toList, str_toList] at h
  have := congrArg (List.map fun b : UInt8 => (b.toNat : Int)) h
  rwa [str_back hx, str_back hy] at this
def sameB (a b : List Rc) : Bool := decide (a = b)
end Go.Proofs.Ytobljkhidgbeoaa.Oct
/- WalTurned. -/
namespace Go.Proofs.Ytobljkhidgbeoaa.Oct
open Go.RowKit Go.Proofs.YtobljkhidgbeoaaW.PrintWords Go.Proofs.Ytobljkhidgbeoaa.M
set_option linter.unusedVariables false
set_option linter.unusedSimpArgs false
theorem endL_cons (x : Nat × Rc) (l : List (Nat × Rc)) (h : l ≠ []) : endL (x :: l) = endL l := by
  unfold endL
  rw [List.getLast?_cons_of_ne_nil h]
theorem endsR_ne {l : List Rc} (h : l ≠ []) (at_ : Nat) : endsR at_ l ≠ [] := by
  cases l with
  | nil => exact absurd rfl h
  | cons r l => simp [endsR]
theorem endL_endsR (l : List Rc) : ∀ at_, l ≠ [] → endL (endsR at_ l) = ((at_ + (allB l).length : Nat) : Int) := by
  induction l with
  | nil => intro _ h; exact absurd rfl h
  | cons r l ih =>
    intro at_ _
    rw [allB_cons, List.length_append]
    by_cases h : l = []
    · subst h
      simp [endsR, endL, allB]
    · show endL ((at_ + r.all.length, r) :: endsR (at_ + r.all.length) l) = _
      rw [endL_cons _ _ (endsR_ne h _), ih _ h, Nat.add_assoc]
theorem endL_zero (l : List Rc) : endL (endsR 0 l) = ((allB l).length : Int) := by
  by_cases h : l = []
  · subst h; rfl
  · rw [endL_endsR l 0 h, Nat.zero_add]
theorem split_at {l : List Rc} {k : Nat} (hk : k < l.length) (z : Rc) : l = l.take k ++ l.getD k z :: l.drop (k + 1) := by
  rw [List.getD_eq_getElem?_getD, List.getElem?_eq_getElem hk]
  simp
theorem allB_app (a b : List Rc) : allB (a ++ b) = allB a ++ allB b := by unfold allB; rw [List.flatMap_append]
theorem readL_turned {l : List Rc} (hg : ∀ r ∈ l, r.good) (hb : ∀ r ∈ l, Bytes r.2) {k n : Nat} (hk : k < l.length) (z : Rc) (hn : n ≤ (l.getD k z).2.length) {y : Int} (hy : Byte y)
    (hne : (allB l).getD ((allB (l.take k)).length + 2 + n) 0 ≠ y) : readL 0 ((allB l).set ((allB (l.take k)).length + 2 + n) y) = endsR 0 (l.take k) := by
  have hs := split_at hk z
  obtain ⟨r, hr⟩ : ∃ r, r = l.getD k z := ⟨_, rfl⟩
  have hrm : r ∈ l := by rw [hr, List.getD_eq_getElem?_getD, List.getElem?_eq_getElem hk]; exact List.getElem_mem hk
  rw [← hr] at hs hn
  have ha := Rc.all_len r
  have e : allB l = allB (l.take k) ++ (r.all ++ allB (l.drop (k + 1))) := by
    conv => lhs; rw [hs, allB_app, allB_cons]
  obtain ⟨F, hF⟩ : ∃ F, F = allB (l.take k) := ⟨_, rfl⟩
  rw [← hF] at e hne ⊢
  rw [e] at hne ⊢
  rw [List.set_append_right _ _ (by omega), show F.length + 2 + n - F.length = 2 + n by omega, List.set_append_left _ _ (by omega)]
  rw [List.getD_eq_getElem?_getD, List.getElem?_append_right (by omega), show F.length + 2 + n - F.length = 2 + n by omega, List.getElem?_append_left (by omega), ← List.getD_eq_getElem?_getD] at hne
  rw [hF, readL_allB (fun q hq => hg q (List.mem_of_mem_take hq)), readL_no (isR_turned (hg r hrm) (hb r hrm) hn hy hne _), List.append_nil]
/-- rows of the call's own, read -/
theorem RW.C {W : World} {base n c : Nat} {A : Option Addr} {ls : List Rc} (h : RW W base (.slice A n c) ls) (hl : ls.length ≤ 9223372036854775807) : recK.C W A ls.length ls := by
  obtain ⟨vs, h1, h2⟩ := h
  have hA := OwnAt.of_row h1
  refine ⟨rfl, hl, fun hn => ?_⟩
  obtain ⟨_, u0, hu0, _⟩ := h2 0 ls[0] (List.getElem?_eq_getElem hn)
  have hnc : n = ls.length := by
    rcases h1.2 with ⟨e, h0⟩ | ⟨g, cap, cur, e, _⟩
    · omega
    · injection e with _ e _
  subst hnc
  obtain ⟨ad, e, _⟩ := OwnAt.cell hA hu0
  refine ⟨ad, e, fun j p hj => ?_⟩
  obtain ⟨e1, u, e2, ho⟩ := h2 j p hj
  obtain ⟨B, cc, rfl, hr⟩ := ho.reads
  have hcap : p.2.length ≤ cc := by
    rcases ho.2 with ⟨e, h0⟩ | ⟨g, cap, cur, e, _, _, hc, _⟩
    · injection e with _ e _; omega
    · injection e with _ _ e; omega
  refine ⟨[.int .i64 p.1, .slice B p.2.length cc], rfl, ⟨[.int .i64 p.1], [.slice B p.2.length cc], rfl, rfl, B, cc, rfl, hcap, hr⟩, fun i v hv => ?_⟩
  have hsz : recK.sz = 2 := rfl
  rw [hsz]
  match i, hv with
  | 0, hv =>
    obtain ⟨ad2, e', hc⟩ := OwnAt.cell hA e1
    rw [e] at e'
    injection e' with e'
    subst e'
    rw [Nat.add_zero, Nat.mul_comm]
    simp at hv
    rw [← hv]
    exact hc
  | 1, hv =>
    obtain ⟨ad2, e', hc⟩ := OwnAt.cell hA e2
    rw [e] at e'
    injection e' with e'
    subst e'
    rw [Nat.mul_comm]
    simp at hv
    rw [← hv]
    exact hc
end Go.Proofs.Ytobljkhidgbeoaa.Oct
/- WalTurned's walk. -/
namespace Go.Proofs.Ytobljkhidgbeoaa.Oct
open Go.RowKit Go.Proofs.YtobljkhidgbeoaaW.PrintWords Go.Proofs.Ytobljkhidgbeoaa.M
set_option linter.unusedVariables false
set_option linter.unusedSimpArgs false
theorem rec_mem {l : List Rc} {i : Nat} (h : i < l.length) (z : Rc) : l.getD i z ∈ l := by rw [List.getD_eq_getElem?_getD, List.getElem?_eq_getElem h]; exact List.getElem_mem h
theorem take_snoc {l : List Rc} {i : Nat} (h : i < l.length) (z : Rc) : l.take (i + 1) = l.take i ++ [l.getD i z] := by
  rw [List.take_add_one, List.getD_eq_getElem?_getD, List.getElem?_eq_getElem h]
  rfl
theorem great_no {l : List Rc} (h : greatB l = false) : l.length ≤ 20 ∧ ∀ r ∈ l, r.2.length ≤ 3000 := by
  unfold greatB at h
  rw [Bool.or_eq_false_iff] at h
  refine ⟨by simpa using h.1, fun r hr => ?_⟩
  have := List.any_eq_false.1 h.2 r hr
  unfold longB at this
  simp at this
  omega
theorem allB_le {l : List Rc} (hg : ∀ r ∈ l, r.good) : (allB l).length ≤ 1031 * l.length := by
  induction l with
  | nil => simp [allB]
  | cons r l ih =>
    rw [allB_cons, List.length_append, Rc.all_len, List.length_cons]
    have := ih (fun q hq => hg q (by simp [hq]))
    have := (hg r (by simp)).2.2
    omega
theorem QB.set {W : World} {base g off n c : Nat} {xs : List Int} (h : QB W base (.slice (some ⟨g, off, none⟩) n c) xs) {j : Nat} (hj : j < xs.length) (y : Int) : W.cell? ⟨g, off + j, none⟩ = some (.int .u8 (xs.getD j 0)) ∧ W.frozen? ⟨g, off + j, none⟩ = false ∧ QB (W.setCell ⟨g, off + j, none⟩ (.int .u8 y)) base (.slice (some ⟨g, off, none⟩) n c) (xs.set j y) := by
  have hcell : W.cell? ⟨g, off + j, none⟩ = some (.int .u8 (xs.getD j 0)) := by
    obtain ⟨A, c', e, _, _, hr⟩ := h.form
    injection e with e1 e2 e3
    subst e1
    obtain ⟨ad, e, hc⟩ := C_byte hr hj
    injection e with e
    rw [← e, Addr.add_lit] at hc
    exact hc
  rcases h.2 with ⟨e, _⟩ | ⟨g', off', cap, cur, e, hb, hh, hc, hm, h6, h7⟩
  · cases e
  · obtain ⟨⟨rfl, rfl⟩, rfl, rfl⟩ : (g = g' ∧ off = off') ∧ n = xs.length ∧ c = cap := by simpa using e
    refine ⟨hcell, by simp [World.frozen?, hh], ?_⟩
    unfold QB
    rw [List.length_set]
    refine ⟨by simp [nums], .inr ⟨g, off, c, _, rfl, hb, heap_set _ hh, hc, hm, by simpa using h6, ?_⟩⟩
    have e1 : (cur.setIfInBounds (off + j) (.int .u8 y)).toList = cur.toList.set (off + j) (.int .u8 y) := by simp
    have e2 : nums .u8 (xs.set j y) = (nums .u8 xs).set j (.int .u8 y) := by simp [nums, List.map_set]
    rw [e1, e2, ← h7, List.drop_set, if_neg (by omega), Nat.add_sub_cancel_left, List.take_set]
theorem getD_lt_ne {xs : List Int} (hb : Bytes xs) {y : Int} (hy : Byte y) (h0 : y ≠ 0) (n : Nat) : ∃ z, Go.bits .xor .u8 (xs.getD n 0) y = z ∧ Byte z ∧ xs.getD n 0 ≠ z := by
  obtain ⟨h1, h2⟩ := hb.getD n
  obtain ⟨h3, h4⟩ := hy
  refine ⟨_, u8_xor h1 h2 h3 h4, ⟨by omega, ?_⟩, fun e => ?_⟩
  · have := xor_byte (a := (xs.getD n 0).toNat) (b := y.toNat) (by omega) (by omega)
    omega
  · have := xor_ne (a := (xs.getD n 0).toNat) (b := y.toNat) (by omega)
    omega
end Go.Proofs.Ytobljkhidgbeoaa.Oct
