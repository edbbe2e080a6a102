/-
  Ports as words, plain: what Pack and Unpack answer. (Plain Lean, no program.)
-/
namespace Go.Proofs.Ythbobooiedcofaa

def pkE (c s : Int) : Int := if c = -1 ∧ 0 ≤ s ∧ s < 64 then 0 else if 0 ≤ c ∧ c < 4096 ∧ 0 ≤ s ∧ s ≤ 6 then 0 else 30
def pkW (c s : Int) : Int := if c = -1 ∧ 0 ≤ s ∧ s < 64 then 2147483648 + s else if 0 ≤ c ∧ c < 4096 ∧ 0 ≤ s ∧ s ≤ 6 then 8 * c + s else 0
def unC (v : Int) : Int := if 2147483648 ≤ v then -1 else v / 8
def unS (v : Int) : Int := if 2147483648 ≤ v then v - 2147483648 else v % 8
def unOk (v : Int) : Bool := decide (pkE (unC v) (unS v) = 0 ∧ pkW (unC v) (unS v) = v)
def upC (v : Int) : Int := if unOk v then unC v else 0
def upS (v : Int) : Int := if unOk v then unS v else 0
theorem un_none : unOk 4294967295 = false := by decide
theorem pk_un {c s : Int} (h : pkE c s = 0) : unOk (pkW c s) = true ∧ unC (pkW c s) = c ∧ unS (pkW c s) = s ∧ 0 ≤ pkW c s ∧ pkW c s < 4294967295 := by
  have hcs : (c = -1 ∧ 0 ≤ s ∧ s < 64) ∨ (0 ≤ c ∧ c < 4096 ∧ 0 ≤ s ∧ s ≤ 6) := by
    unfold pkE at h
    split at h
    · left; assumption
    · split at h
      · right; assumption
      · omega
  have h1 : unC (pkW c s) = c ∧ unS (pkW c s) = s ∧ 0 ≤ pkW c s ∧ pkW c s < 4294967295 := by
    rcases hcs with ⟨rfl, h2, h3⟩ | ⟨h2, h3, h4, h5⟩
    · have e : pkW (-1) s = 2147483648 + s := by unfold pkW; rw [if_pos ⟨rfl, h2, h3⟩]
      rw [e]; unfold unC unS
      rw [if_pos (by omega), if_pos (by omega)]
      omega
    · have e : pkW c s = 8 * c + s := by unfold pkW; rw [if_neg (by omega), if_pos ⟨h2, h3, h4, h5⟩]
      rw [e]; unfold unC unS
      rw [if_neg (by omega), if_neg (by omega)]
      omega
  refine ⟨?_, h1⟩
  unfold unOk
  rw [h1.1, h1.2.1]
  simp [h]
theorem pk_inj {c s c' s' : Int} (h : pkE c s = 0) (h' : pkE c' s' = 0) (e : pkW c s = pkW c' s') : c = c' ∧ s = s' := by
  have h1 := (pk_un h).2
  have h2 := (pk_un h').2
  rw [e] at h1
  exact ⟨h1.1.symm.trans h2.1, h1.2.1.symm.trans h2.2.1⟩
end Go.Proofs.Ythbobooiedcofaa
