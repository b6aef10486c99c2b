import Derived.Test.YtcpkfkcemaihfaaFrameM
/- Plain ends of a session: no program in sight. -/
namespace Go.Proofs.Ytcpkfkcemaihfaa.M
structure Es where
  ses : Int
  win : Nat
  q : List (List Int)
  first : Nat
  exp : Nat
def Es.ok (e : Es) : Prop := (1 ≤ e.ses ∧ e.ses < 4294967296) ∧ (1 ≤ e.win ∧ e.win ≤ 16) ∧ e.q.length ≤ 64 ∧ (∀ l ∈ e.q, 1 ≤ l.length ∧ l.length ≤ 256 ∧ Bytes l) ∧ e.first + e.q.length ≤ 65535 ∧ e.exp ≤ 65535
def Es.put (e : Es) (b : List Int) : Es × Int :=
  if b.length = 0 then (e, 1) else if 256 < b.length then (e, 2) else if 64 ≤ e.q.length then (e, 5) else if 65535 ≤ e.first + e.q.length then (e, 91) else ({ e with q := e.q ++ [b] }, 0)
def Es.frame (e : Es) (i : Nat) : FR := ⟨e.ses, (e.first : Int) + i, e.exp, e.q.getD i []⟩
def Es.frames (e : Es) : List FR := if e.q.length = 0 then [⟨e.ses, 0, e.exp, []⟩] else (List.range (min e.q.length e.win)).map e.frame
def Es.acked (e : Es) (k : Int) : Es := if (e.first : Int) < k then { e with q := e.q.drop (k - e.first).toNat, first := k.toNat } else e
def Es.on (e : Es) (f : FR) : Es × List Int × Int :=
  if f.s ≠ e.ses then (e, [], 90)
  else if f.k < 0 ∨ (e.first : Int) + e.q.length < f.k then (e, [], 91)
  else if f.d.length = 0 ∨ f.q ≠ e.exp then (e.acked f.k, [], 0)
  else if e.exp = 65535 then (e.acked f.k, [], 91)
  else ({ e.acked f.k with exp := e.exp + 1 }, f.d, 0)
theorem Es.put_ok {e : Es} (h : e.ok) {b : List Int} (hb : Bytes b) : (e.put b).1.ok := by
  unfold Es.put
  split
  · exact h
  split
  · exact h
  split
  · exact h
  split
  · exact h
  · obtain ⟨h1, h2, h3, h4, h5, h6⟩ := h
    refine ⟨h1, h2, ?_, fun l hl => ?_, ?_, h6⟩
    · show (e.q ++ [b]).length ≤ 64
      rw [List.length_append]; simp; omega
    · rcases List.mem_append.1 hl with h | h
      · exact h4 l h
      · obtain rfl : l = b := by simpa using h
        exact ⟨by omega, by omega, hb⟩
    · show e.first + (e.q ++ [b]).length ≤ 65535
      rw [List.length_append]; simp; omega
theorem Es.acked_ok {e : Es} (h : e.ok) {k : Int} (hk : k ≤ (e.first : Int) + e.q.length) : (e.acked k).ok := by
  unfold Es.acked
  split
  · rename_i hlt
    obtain ⟨h1, h2, h3, h4, h5, h6⟩ := h
    refine ⟨h1, h2, ?_, fun l hl => h4 l (List.mem_of_mem_drop hl), ?_, h6⟩
    · show (e.q.drop _).length ≤ 64
      rw [List.length_drop]; omega
    · show k.toNat + (e.q.drop (k - e.first).toNat).length ≤ 65535
      rw [List.length_drop]; omega
  · exact h
theorem Es.acked_exp (e : Es) (k : Int) : (e.acked k).exp = e.exp := by unfold Es.acked; split <;> rfl
theorem Es.acked_ses (e : Es) (k : Int) : (e.acked k).ses = e.ses := by unfold Es.acked; split <;> rfl
theorem Es.acked_win (e : Es) (k : Int) : (e.acked k).win = e.win := by unfold Es.acked; split <;> rfl
theorem Es.on_ok {e : Es} (h : e.ok) (f : FR) : (e.on f).1.ok := by
  unfold Es.on
  split
  · exact h
  split
  · exact h
  · rename_i hk
    have ha := Es.acked_ok h (k := f.k) (by omega)
    split
    · exact ha
    split
    · exact ha
    · rename_i he
      obtain ⟨h1, h2, h3, h4, h5, h6⟩ := ha
      rw [Es.acked_exp] at h6
      exact ⟨h1, h2, h3, h4, h5, by show e.exp + 1 ≤ 65535; omega⟩
theorem Es.frames_len (e : Es) : e.frames.length = if e.q.length = 0 then 1 else min e.q.length e.win := by
  unfold Es.frames
  split
  · rfl
  · rw [List.length_map, List.length_range]
def newE (s : Int) (n : Nat) : Es := ⟨s, n, [], 0, 0⟩
theorem newE_ok {s : Int} {n : Nat} (h : 1 ≤ s ∧ s < 4294967296) (hn : 1 ≤ n ∧ n ≤ 16) : (newE s n).ok := ⟨h, hn, by simp [newE], fun l hl => (nomatch hl), by simp [newE], by simp [newE]⟩
end Go.Proofs.Ytcpkfkcemaihfaa.M
