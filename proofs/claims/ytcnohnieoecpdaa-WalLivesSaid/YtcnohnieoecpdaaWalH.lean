import Derived.Test.YtcnohnieoecpdaaWalG
/- WalTurned. -/
namespace Go.Proofs.Ytcnohnieoecpdaa.Oct
open Go.RowKit Go.Proofs.YtcnohnieoecpdaaW.PrintWords Go.Proofs.Ytcnohnieoecpdaa.M
set_option linter.unusedVariables false
set_option linter.unusedSimpArgs false
theorem endL_cons (x : Nat × Rc) (l : List (Nat × Rc)) (h : l ≠ []) : endL (x :: l) = endL l := by
  unfold endL
  rw [List.getLast?_cons_of_ne_nil h]
theorem endsR_ne {l : List Rc} (h : l ≠ []) (at_ : Nat) : endsR at_ l ≠ [] := by
  cases l with
  | nil => exact absurd rfl h
  | cons r l => simp [endsR]
theorem endL_endsR (l : List Rc) : ∀ at_, l ≠ [] → endL (endsR at_ l) = ((at_ + (allB l).length : Nat) : Int) := by
  induction l with
  | nil => intro _ h; exact absurd rfl h
  | cons r l ih =>
    intro at_ _
    rw [allB_cons, List.length_append]
    by_cases h : l = []
    · subst h
      simp [endsR, endL, allB]
    · show endL ((at_ + r.all.length, r) :: endsR (at_ + r.all.length) l) = _
      rw [endL_cons _ _ (endsR_ne h _), ih _ h, Nat.add_assoc]
theorem endL_zero (l : List Rc) : endL (endsR 0 l) = ((allB l).length : Int) := by
  by_cases h : l = []
  · subst h; rfl
  · rw [endL_endsR l 0 h, Nat.zero_add]
theorem split_at {l : List Rc} {k : Nat} (hk : k < l.length) (z : Rc) : l = l.take k ++ l.getD k z :: l.drop (k + 1) := by
  rw [List.getD_eq_getElem?_getD, List.getElem?_eq_getElem hk]
  simp
theorem allB_app (a b : List Rc) : allB (a ++ b) = allB a ++ allB b := by unfold allB; rw [List.flatMap_append]
theorem readL_turned {l : List Rc} (hg : ∀ r ∈ l, r.good) (hb : ∀ r ∈ l, Bytes r.2) {k n : Nat} (hk : k < l.length) (z : Rc) (hn : n ≤ (l.getD k z).2.length) {y : Int} (hy : Byte y)
    (hne : (allB l).getD ((allB (l.take k)).length + 2 + n) 0 ≠ y) : readL 0 ((allB l).set ((allB (l.take k)).length + 2 + n) y) = endsR 0 (l.take k) := by
  have hs := split_at hk z
  obtain ⟨r, hr⟩ : ∃ r, r = l.getD k z := ⟨_, rfl⟩
  have hrm : r ∈ l := by rw [hr, List.getD_eq_getElem?_getD, List.getElem?_eq_getElem hk]; exact List.getElem_mem hk
  rw [← hr] at hs hn
  have ha := Rc.all_len r
  have e : allB l = allB (l.take k) ++ (r.all ++ allB (l.drop (k + 1))) := by
    conv => lhs; rw [hs, allB_app, allB_cons]
  obtain ⟨F, hF⟩ : ∃ F, F = allB (l.take k) := ⟨_, rfl⟩
  rw [← hF] at e hne ⊢
  rw [e] at hne ⊢
  rw [List.set_append_right _ _ (by omega), show F.length + 2 + n - F.length = 2 + n by omega, List.set_append_left _ _ (by omega)]
  rw [List.getD_eq_getElem?_getD, List.getElem?_append_right (by omega), show F.length + 2 + n - F.length = 2 + n by omega, List.getElem?_append_left (by omega), ← List.getD_eq_getElem?_getD] at hne
  rw [hF, readL_allB (fun q hq => hg q (List.mem_of_mem_take hq)), readL_no (isR_turned (hg r hrm) (hb r hrm) hn hy hne _), List.append_nil]
/-- rows of the call's own, read -/
theorem RW.C {W : World} {base n c : Nat} {A : Option Addr} {ls : List Rc} (h : RW W base (.slice A n c) ls) (hl : ls.length ≤ 9223372036854775807) : recK.C W A ls.length ls := by
  obtain ⟨vs, h1, h2⟩ := h
  have hA := OwnAt.of_row h1
  refine ⟨rfl, hl, fun hn => ?_⟩
  obtain ⟨_, u0, hu0, _⟩ := h2 0 ls[0] (List.getElem?_eq_getElem hn)
  have hnc : n = ls.length := by
    rcases h1.2 with ⟨e, h0⟩ | ⟨g, cap, cur, e, _⟩
    · omega
    · injection e with _ e _
  subst hnc
  obtain ⟨ad, e, _⟩ := OwnAt.cell hA hu0
  refine ⟨ad, e, fun j p hj => ?_⟩
  obtain ⟨e1, u, e2, ho⟩ := h2 j p hj
  obtain ⟨B, cc, rfl, hr⟩ := ho.reads
  have hcap : p.2.length ≤ cc := by
    rcases ho.2 with ⟨e, h0⟩ | ⟨g, cap, cur, e, _, _, hc, _⟩
    · injection e with _ e _; omega
    · injection e with _ _ e; omega
  refine ⟨[.int .i64 p.1, .slice B p.2.length cc], rfl, ⟨[.int .i64 p.1], [.slice B p.2.length cc], rfl, rfl, B, cc, rfl, hcap, hr⟩, fun i v hv => ?_⟩
  have hsz : recK.sz = 2 := rfl
  rw [hsz]
  match i, hv with
  | 0, hv =>
    obtain ⟨ad2, e', hc⟩ := OwnAt.cell hA e1
    rw [e] at e'
    injection e' with e'
    subst e'
    rw [Nat.add_zero, Nat.mul_comm]
    simp at hv
    rw [← hv]
    exact hc
  | 1, hv =>
    obtain ⟨ad2, e', hc⟩ := OwnAt.cell hA e2
    rw [e] at e'
    injection e' with e'
    subst e'
    rw [Nat.mul_comm]
    simp at hv
    rw [← hv]
    exact hc
end Go.Proofs.Ytcnohnieoecpdaa.Oct
