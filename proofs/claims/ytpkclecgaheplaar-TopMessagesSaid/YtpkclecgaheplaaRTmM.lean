import Derived.Test.YtpkclecgaheplaaRFrameN
import Derived.Test.YtpkclecgaheplaaRPathM
/- Plain messages: no program in sight. -/
namespace Go.Proofs.YtpkclecgaheplaaR.M
structure Mg where
  k : Int
  u : Int
  l : Int
  s : Int
  x : Bool
  m : Int
  y : Int
def Mg.ok (a : Mg) : Prop := (-9223372036854775808 ≤ a.k ∧ a.k ≤ 9223372036854775807) ∧ (-9223372036854775808 ≤ a.u ∧ a.u ≤ 9223372036854775807) ∧ (0 ≤ a.l ∧ a.l < 4294967296) ∧ (0 ≤ a.s ∧ a.s < 4294967296) ∧ (0 ≤ a.m ∧ a.m < 4294967296) ∧ (0 ≤ a.y ∧ a.y < 4294967296)
def luwP (u s : Int) : Prop := (0 ≤ u ∧ u < 6) ∧ 0 < s
instance (u s : Int) : Decidable (luwP u s) := by unfold luwP; infer_instance
def rawB (u l s : Int) : List Int := u :: (beB l 4 ++ beB s 4)
/-- may a message be? three ways -/
def Mg.names (a : Mg) : Prop := a.k = 12 ∧ a.m ≠ 0 ∧ a.u = 0 ∧ a.l = 0 ∧ a.s = 0 ∧ a.x = false
def Mg.refuse (a : Mg) : Prop := a.k = 13 ∧ a.u = 0 ∧ a.l = 0 ∧ a.s = 0 ∧ a.x = false ∧ a.m = 0 ∧ a.y = 0
def Mg.work (a : Mg) : Prop := (1 ≤ a.k ∧ a.k < 12) ∧ luwP a.u a.s ∧ (a.x = false ∨ a.k = 9) ∧ a.m = 0 ∧ a.y = 0
instance (a : Mg) : Decidable a.names := by unfold Mg.names; infer_instance
instance (a : Mg) : Decidable a.refuse := by unfold Mg.refuse; infer_instance
instance (a : Mg) : Decidable a.work := by unfold Mg.work; infer_instance
def Mg.right (a : Mg) : Prop := a.names ∨ a.refuse ∨ a.work
instance (a : Mg) : Decidable a.right := by unfold Mg.right; infer_instance
def Mg.data (a : Mg) : List Int := if a.k = 12 then beB a.m 4 ++ beB a.y 4 else if a.k = 13 then [] else rawB a.u a.l a.s ++ [if a.x then 1 else 0]
def gdsB (id : Int) (d : List Int) : List Int := [0, (d.length : Int) + 4, id / 256, id % 256] ++ d
def Mg.bytes (a : Mg) : List Int := gdsB (4864 + a.k) a.data
theorem rawB_len (u l s : Int) : (rawB u l s).length = 9 := by unfold rawB; simp [beB_length]
theorem rawB_bytes {u l s : Int} (h : 0 ≤ u ∧ u < 6) : Bytes (rawB u l s) := Bytes.cons ⟨h.1, by omega⟩ ((beB_bytes _ _).append (beB_bytes _ _))
theorem Mg.data_len (a : Mg) : a.data.length ≤ 10 := by
  unfold Mg.data
  split
  · simp [beB_length]
  split
  · simp
  · simp [rawB_len]
theorem Mg.data_bytes {a : Mg} (h : a.right) : Bytes a.data := by
  unfold Mg.data
  split
  · exact (beB_bytes _ _).append (beB_bytes _ _)
  split
  · exact Bytes.nil
  · rename_i h1 h2
    rcases h with h | h | h
    · exact absurd h.1 h1
    · exact absurd h.1 h2
    · exact (rawB_bytes h.2.1.1).append (Bytes.cons (by split <;> constructor <;> decide) Bytes.nil)
theorem Mg.kind {a : Mg} (h : a.right) : 1 ≤ a.k ∧ a.k ≤ 13 := by
  rcases h with h | h | h
  · have := h.1; omega
  · have := h.1; omega
  · have := h.1; omega
theorem Mg.bytes_len (a : Mg) : a.bytes.length = 4 + a.data.length := by unfold Mg.bytes gdsB; simp; omega
theorem Mg.bytes_bytes {a : Mg} (h : a.right) : Bytes a.bytes := by
  have hk := Mg.kind h
  have hl := a.data_len
  unfold Mg.bytes gdsB
  exact (Bytes.cons ⟨by decide, by decide⟩ (Bytes.cons ⟨by omega, by omega⟩ (Bytes.cons ⟨by omega, by omega⟩ (Bytes.cons ⟨by omega, by omega⟩ Bytes.nil)))).append (Mg.data_bytes h)
end Go.Proofs.YtpkclecgaheplaaR.M
