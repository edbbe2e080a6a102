/-
  Contracts of rule.Tidy, skeinref15.Neat, and of skeinref00's CopyNet, CopyRule, EqRule.
-/
import Derived.Test.YtkonfogebepccaaDoorNetSeq
import Derived.Test.YtkonfogebepccaaDoorRef03M
import Derived.Deep.DeepCutAuto
import Derived.RegionTactic
import Derived.BigQuiet
import Derived.Deep.QuietTactic
import Derived.Test.YtkonfogebepccaaDoorNetPlainK
import Derived.Test.YtkonfogebepccaaDoorRef03C
import Derived.Deep.RegionHeld3
/-
  Contracts of rule.Check and skeinref15.Check.
-/
/-
  Contract of net.Move.
-/
/-
  Contract of net.numbers.
-/
namespace Go.Proofs.YtkonfogebepccaaDoor
open Go.RowKit
attribute [local go_sem] cell_set
set_option maxRecDepth 100000
set_option linter.unusedVariables false

end Go.Proofs.YtkonfogebepccaaDoor
namespace Go.Proofs.YtkonfogebepccaaDoor
open Go.RowKit Go.Shelf
attribute [local go_sem] cell_set
set_option maxRecDepth 100000
set_option linter.unusedVariables false

/-- The boxes of Move. -/
structure MvB (b : Nat) (VA : Option Addr) (n1 ca : Nat) (free : Int) (VB : Option Addr) (n2 cb : Nat) (VC : Option Addr) (nc cc : Nat) (VF : Option Addr) (nf cf : Nat) (X : World) : Prop where
  n : NBox X b VA n1 ca free VB n2 cb
  c : X.cell? ⟨b + 1, 0, none⟩ = some (.slice VC nc cc)
  f : X.cell? ⟨b + 2, 0, none⟩ = some (.slice VF nf cf)
  r0 : X.cell? ⟨b + 3, 0, none⟩ = some (.slice none 0 0)
  r1 : X.cell? ⟨b + 3, 1, none⟩ = some (.int .i64 0)
  r2 : X.cell? ⟨b + 3, 2, none⟩ = some (.slice none 0 0)
  g0 : X.frozen? ⟨b + 3, 0, none⟩ = false
  g1 : X.frozen? ⟨b + 3, 1, none⟩ = false
  g2 : X.frozen? ⟨b + 3, 2, none⟩ = false
  lt : b + 3 < X.heap.size
theorem MvB.below {b : Nat} {VA : Option Addr} {n1 ca : Nat} {free : Int} {VB : Option Addr} {n2 cb : Nat} {VC : Option Addr} {nc cc : Nat} {VF : Option Addr} {nf cf : Nat} {X X' : World} (h : MvB b VA n1 ca free VB n2 cb VC nc cc VF nf cf X) (hb : Below X.heap.size X X') : MvB b VA n1 ca free VB n2 cb VC nc cc VF nf cf X' := by
  have hl := h.lt
  exact ⟨h.n.below hb, (hb.cell (p := ⟨b + 1, 0, none⟩) (by show b + 1 < _; omega)).trans h.c, (hb.cell (p := ⟨b + 2, 0, none⟩) (by show b + 2 < _; omega)).trans h.f,
    (hb.cell (p := ⟨b + 3, 0, none⟩) hl).trans h.r0, (hb.cell (p := ⟨b + 3, 1, none⟩) hl).trans h.r1, (hb.cell (p := ⟨b + 3, 2, none⟩) hl).trans h.r2,
    (hb.frozen (p := ⟨b + 3, 0, none⟩) hl).trans h.g0, (hb.frozen (p := ⟨b + 3, 1, none⟩) hl).trans h.g1, (hb.frozen (p := ⟨b + 3, 2, none⟩) hl).trans h.g2, Nat.lt_of_lt_of_le hl hb.size⟩
section
variable (A : Option Addr) (n cap : Nat) (L : List (ByteArray × Int)) (VA VB : Option Addr) (ca cb : Nat) (cells : List Int) (free : Int) (W : List (Pt × Pt)) (VC : Option Addr) (nc cc : Nat) (cs : List Int) (VF : Option Addr) (nf cf : Nat) (fs : List Int) (w : World)
end
end Go.Proofs.YtkonfogebepccaaDoor
/-
  Contract of skeinref03.Moved.
-/
namespace Go.Proofs.YtkonfogebepccaaDoor
open Go.RowKit Go.Shelf
attribute [local go_sem] cell_set
set_option maxRecDepth 100000
set_option linter.unusedVariables false

theorem NBox.keep {w w' : World} {b : Nat} {VA VB : Option Addr} {n1 ca n2 cb : Nat} {free : Int} (h : NBox w b VA n1 ca free VB n2 cb) (hz : w.heap.size ≤ w'.heap.size) (hk : w'.heap[b]? = w.heap[b]?) : NBox w' b VA n1 ca free VB n2 cb :=
  ⟨Nat.lt_of_lt_of_le h.lt hz, (World.cell?_of_block hk).trans h.c0, (World.cell?_of_block hk).trans h.c1, (World.cell?_of_block hk).trans h.c2⟩
end Go.Proofs.YtkonfogebepccaaDoor
namespace Go.Proofs.YtkonfogebepccaaDoor
open Go.RowKit
attribute [local go_sem] cell_set
set_option maxRecDepth 100000
set_option linter.unusedVariables false

def ruleChk (L : List (ByteArray × Int)) (a b : Int) (cells : List Int) (free : Int) (W : List (Pt × Pt)) : Int × Int :=
  if (chk L).1 ≠ 0 then chk L else
  if a < 0 ∨ (L.length : Int) ≤ a then (20, 0) else
  if b < 0 ∨ (L.length : Int) ≤ b then (20, 1) else
  if (netChk (pnL L) L.length (chk L) cells free W).1 ≠ 0 then netChk (pnL L) L.length (chk L) cells free W else
  if 32 < cells.length then (50, 32) else
  if agA L a.toNat + agA L b.toNat ≠ free then (51, agA L a.toNat + agA L b.toNat) else (0, 0)
section
variable {L : List (ByteArray × Int)} {a b : Int} {cells : List Int} {free : Int} {W : List (Pt × Pt)}
theorem rc_ok (h : (chk L).1 = 0) (ha : 0 ≤ a ∧ a < L.length) (hb : 0 ≤ b ∧ b < L.length) (hn : (netChk (pnL L) L.length (chk L) cells free W).1 = 0) (h32 : cells.length ≤ 32) (hf : agA L a.toNat + agA L b.toNat = free) : ruleChk L a b cells free W = (0, 0) := by
  unfold ruleChk; rw [if_neg (by simpa using h), if_neg (by omega), if_neg (by omega), if_neg (by simpa using hn), if_neg (by omega), if_neg (by simpa using hf)]
end
/-- A rule in a box. -/
structure RBx (X : World) (k : Nat) (a b : Int) (VA : Option Addr) (n1 ca : Nat) (free : Int) (VB : Option Addr) (n2 cb : Nat) : Prop where
  lt : k < X.heap.size
  c0 : X.cell? ⟨k, 0, none⟩ = some (.int .i64 a)
  c1 : X.cell? ⟨k, 1, none⟩ = some (.int .i64 b)
  c2 : X.cell? ⟨k, 2, none⟩ = some (.slice VA n1 ca)
  c3 : X.cell? ⟨k, 3, none⟩ = some (.int .i64 free)
  c4 : X.cell? ⟨k, 4, none⟩ = some (.slice VB n2 cb)
theorem RBx.below {X X' : World} {k : Nat} {a b : Int} {VA : Option Addr} {n1 ca : Nat} {free : Int} {VB : Option Addr} {n2 cb : Nat} (h : RBx X k a b VA n1 ca free VB n2 cb) (hb : Below X.heap.size X X') : RBx X' k a b VA n1 ca free VB n2 cb :=
  ⟨Nat.lt_of_lt_of_le h.lt hb.size, (hb.cell (p := ⟨k, 0, none⟩) h.lt).trans h.c0, (hb.cell (p := ⟨k, 1, none⟩) h.lt).trans h.c1, (hb.cell (p := ⟨k, 2, none⟩) h.lt).trans h.c2, (hb.cell (p := ⟨k, 3, none⟩) h.lt).trans h.c3, (hb.cell (p := ⟨k, 4, none⟩) h.lt).trans h.c4⟩
section
variable (A : Option Addr) (n cap : Nat) (L : List (ByteArray × Int)) (a b : Int) (VA VB : Option Addr) (ca cb : Nat) (cells : List Int) (free : Int) (W : List (Pt × Pt)) (w : World)
end
end Go.Proofs.YtkonfogebepccaaDoor
/-
  Plain: nets that may be, by what they are; rules turned round, and back; left sides.
-/
namespace Go.Proofs.YtkonfogebepccaaDoor
open Go.RowKit
set_option linter.unusedVariables false

theorem netChk_of {pn : Int → Nat} {most : Nat} {cS : Int × Int} {cells : List Int} {free : Nat} {W : List (Pt × Pt)} (h : cS.1 = 0) (h1 : cells.length ≤ 4096) (h2 : free ≤ 64) (hc : ∀ j, j < cells.length → 0 ≤ cells.getD j 0 ∧ cells.getD j 0 < most)
    (hok : NetOk pn cells free W) : netChk pn most cS cells free W = (0, 0) := by
  refine nc_ok h h1 (by omega) (by omega) hc (fun j hj => ?_) (fun j hj => ?_)
  · rw [wBad_at hj]
    have hm := ends_at hj
    have hn := fun p hp => ends_new hok.nodup hj (p := p) hp
    have hne : (W.getD j default).1 ≠ (W.getD j default).2 := by
      have : W.getD j default = W[j] := by simp [List.getD_eq_getElem?_getD, hj]
      rw [this]
      exact pair_ne hok.nodup (List.getElem_mem hj)
    unfold wErr
    rw [show ((free : Int)).toNat = free from rfl, if_neg (by rw [hok.is _ hm.1, hok.is _ hm.2]; simp), if_neg]
    rintro (h | h | h)
    · exact (hn _ h).1 rfl
    · exact (hn _ h).2 rfl
    · exact hne h
  · refine hok.all _ ?_
    rw [show ((free : Int)).toNat = free from rfl] at hj ⊢
    have : (allPs pn cells free).getD j (0, 0) = (allPs pn cells free)[j] := by simp [List.getD_eq_getElem?_getD, hj]
    rw [this]
    exact List.getElem_mem hj
def idsN (n : Nat) : List Int := (List.range n).map fun (i : Nat) => (i : Int)
def flipN (a b : Nat) (k : Nat) : List Int := (List.range k).map fun (i : Nat) => if i < a then ((b + i : Nat) : Int) else ((i - a : Nat) : Int)
theorem idsN_len (n : Nat) : (idsN n).length = n := by simp [idsN]
theorem flipN_len (a b k : Nat) : (flipN a b k).length = k := by simp [flipN]
theorem idsN_at {n i : Nat} (h : i < n) : (idsN n).getD i 0 = i := by simp [idsN, List.getD_eq_getElem?_getD, h]
theorem flipN_at {a b k i : Nat} (h : i < k) : (flipN a b k).getD i 0 = if i < a then ((b + i : Nat) : Int) else ((i - a : Nat) : Int) := by simp [flipN, List.getD_eq_getElem?_getD, h]
theorem idsN_each (n : Nat) : eachN (idsN n) n := by
  refine ⟨idsN_len n, List.pairwise_map.2 (List.nodup_range.imp fun h e => h (by omega)), fun x hx => ?_⟩
  simp only [idsN, List.mem_map, List.mem_range] at hx
  obtain ⟨i, hi, rfl⟩ := hx
  omega
theorem flipN_each (a b : Nat) : eachN (flipN a b (a + b)) (a + b) := by
  refine ⟨flipN_len a b _, List.pairwise_map.2 ?_, fun x hx => ?_⟩
  · refine (List.nodup_range (n := a + b)).imp_of_mem fun hx hy h e => h ?_
    have hx := List.mem_range.1 hx
    have hy := List.mem_range.1 hy
    split at e <;> split at e <;> omega
  · simp only [flipN, List.mem_map, List.mem_range] at hx
    obtain ⟨i, hi, rfl⟩ := hx
    split <;> omega
theorem outK_ids (cells : List Int) : outK cells (idsN cells.length) cells.length = cells := by
  have hl := outK_len cells (idsN cells.length) cells.length
  refine List.ext_getElem hl fun i h1 h2 => ?_
  have h := outK_at (idsN_each cells.length) (Nat.le_refl _) i h2
  rw [idsN_at h2] at h
  rw [show ((i : Int)).toNat = i from rfl] at h
  simpa [List.getD_eq_getElem?_getD, h1, h2] using h
theorem moves_flip (cells : List Int) (a b : Nat) : Moves cells cells (idsN cells.length) (flipN a b (a + b)) (a + b) := by
  have := moves_of (cells := cells) (idsN_each cells.length) (flipN_each a b)
  rwa [outK_ids] at this
theorem flip_back {pn : Int → Nat} {cells : List Int} {W : List (Pt × Pt)} {a b : Nat} (h : NetOk pn cells (a + b) W) :
    tidyW (allPs pn cells (a + b)) (moveW (idsN cells.length) (flipN b a (a + b)) (tidyW (allPs pn cells (a + b)) (moveW (idsN cells.length) (flipN a b (a + b)) W))) = tidyW (allPs pn cells (a + b)) W := by
  have hm' := moves_flip cells b a
  rw [Nat.add_comm b a] at hm'
  refine h.there_back (moves_flip cells a b) hm' fun p hp => ?_
  obtain ⟨c, s⟩ := p
  unfold isPt at hp
  unfold toPt
  by_cases hc : c = -1
  · subst hc
    simp only [if_true, decide_eq_true_eq] at hp
    obtain ⟨k, rfl⟩ := Int.eq_ofNat_of_zero_le hp.1
    have hk : k < a + b := by omega
    simp only [show ((-1 : Int) < 0) = True by simp, if_true]
    rw [show ((k : Int)).toNat = k from rfl, flipN_at hk]
    by_cases hka : k < a
    · rw [if_pos hka, show (((b + k : Nat) : Int)).toNat = b + k from rfl, flipN_at (by omega), if_neg (by omega)]
      simp only [Prod.mk.injEq, true_and]; omega
    · rw [if_neg hka, show (((k - a : Nat) : Int)).toNat = k - a from rfl, flipN_at (by omega), if_pos (by omega)]
      simp only [Prod.mk.injEq, true_and]; omega
  · simp only [hc, if_false, decide_eq_true_eq] at hp
    obtain ⟨k, rfl⟩ := Int.eq_ofNat_of_zero_le hp.1
    have hk : k < cells.length := by omega
    have hn : ¬ ((k : Int) < 0) := by omega
    simp only [hn, if_false]
    rw [show ((k : Int)).toNat = k from rfl, idsN_at hk]
    simp only [hn, if_false]
    rw [show ((k : Int)).toNat = k from rfl, idsN_at hk]
/-! ### Left sides -/
end Go.Proofs.YtkonfogebepccaaDoor
namespace Go.Proofs.YtkonfogebepccaaDoor
open Go.RowKit
attribute [local go_sem] cell_set
set_option maxRecDepth 100000
set_option linter.unusedVariables false

/-- An empty rule in a box, and free to be written. -/
def RZ (b : Nat) (X : World) : Prop := X.heap[b]? = some (.cells #[.int .i64 0, .int .i64 0, .slice none 0 0, .int .i64 0, .slice none 0 0] 153 (0, 0))
theorem RZ.below {b : Nat} {X X' : World} (h : RZ b X) (hb : Below X.heap.size X X') : RZ b X' := (hb.block _ (heap_lt h)).trans h
theorem RZ.new (X : World) : RZ X.heap.size (X.alloc (.cells #[.int .i64 0, .int .i64 0, .slice none 0 0, .int .i64 0, .slice none 0 0] 153)) := heap_alloc_new _ _
theorem RZ.lt {b : Nat} {X : World} (h : RZ b X) : b < X.heap.size := heap_lt h
theorem RZ.all {b : Nat} {X : World} (h : RZ b X) : X.cell? ⟨b, 0, none⟩ = some (.int .i64 0) ∧ X.cell? ⟨b, 1, none⟩ = some (.int .i64 0) ∧ X.cell? ⟨b, 2, none⟩ = some (.slice none 0 0) ∧ X.cell? ⟨b, 3, none⟩ = some (.int .i64 0) ∧ X.cell? ⟨b, 4, none⟩ = some (.slice none 0 0) ∧
    X.frozen? ⟨b, 0, none⟩ = false ∧ X.frozen? ⟨b, 1, none⟩ = false ∧ X.frozen? ⟨b, 2, none⟩ = false ∧ X.frozen? ⟨b, 3, none⟩ = false ∧ X.frozen? ⟨b, 4, none⟩ = false := by
  have h' : X.heap[b]? = _ := h
  simp [World.cell?, World.frozen?, h']
theorem NetFresh.from {w0 w w' : World} {V1 V2 : Option Addr} {c1 c2 : Nat} {cells : List Int} {W : List (Pt × Pt)} (h : NetFresh w w' V1 c1 cells V2 c2 W) (h0 : Below w0.heap.size w0 w) : NetFresh w0 w' V1 c1 cells V2 c2 W := ⟨h.1.from h0, h.2.from h0⟩
theorem NetFresh.alloc {w w' : World} {V1 V2 : Option Addr} {c1 c2 : Nat} {cells : List Int} {W : List (Pt × Pt)} (h : NetFresh w w' V1 c1 cells V2 c2 W) (o : Obj) : NetFresh w (w'.alloc o) V1 c1 cells V2 c2 W :=
  ⟨h.1.later ((Below.refl _ _).alloc (Nat.le_refl _) _), h.2.later ((Below.refl _ _).alloc (Nat.le_refl _) _)⟩
theorem NetFresh.drew {w w' : World} {V1 V2 : Option Addr} {c1 c2 : Nat} {cells : List Int} {W : List (Pt × Pt)} (h : NetFresh w w' V1 c1 cells V2 c2 W) : NetFresh w w'.drew V1 c1 cells V2 c2 W :=
  ⟨h.1.later (Below.refl _ _).drew, h.2.later (Below.refl _ _).drew⟩
theorem NetFresh.later {w w' w'' : World} {V1 V2 : Option Addr} {c1 c2 : Nat} {cells : List Int} {W : List (Pt × Pt)} (h : NetFresh w w' V1 c1 cells V2 c2 W) (hb : Below w'.heap.size w' w'') : NetFresh w w'' V1 c1 cells V2 c2 W := ⟨h.1.later hb, h.2.later hb⟩
section
variable (A : Option Addr) (n cap : Nat) (L : List (ByteArray × Int)) (a b : Int) (VA VB : Option Addr) (ca cb : Nat) (cells : List Int) (free : Int) (W : List (Pt × Pt)) (w : World)
/-! ### skeinref00 -/
end
end Go.Proofs.YtkonfogebepccaaDoor
