/-
  Rows of ports that 'make' makes; copy of a row of ints; '==' of lists of ports, of plans.
-/
import Derived.Test.YtkonfogebepccaaDoorRuleOps
import Derived.Deep.DeepCutAuto
import Derived.Deep.RegionLaw
import Derived.Test.YtkonfogebepccaaDoorNetMuch
import Derived.Test.YtkonfogebepccaaDoorRowPorts
import Derived.Laws.CopyRow
/-
  Contracts of rule.Left on every input, and of skeinlaw15.works.
-/
/-
  Contracts of rule.Left, skeinref15.Left.
-/
namespace Go.Proofs.YtkonfogebepccaaDoor
open Go.RowKit
attribute [local go_sem] cell_set
set_option maxRecDepth 100000
set_option linter.unusedVariables false

/-- A net in a box, its lists in memory of the call's own. -/
structure LB (w1 : World) (N : Nat) (V1 : Option Addr) (c1 : Nat) (cs : List Int) (f : Int) (V2 : Option Addr) (c2 : Nat) (ws : List (Pt × Pt)) (X : World) : Prop where
  bl : Below w1.heap.size w1 X
  hN : w1.heap.size ≤ N
  hh : X.heap[N]? = some (.cells #[.slice V1 cs.length c1, .int .i64 f, .slice V2 ws.length c2] 64 (0, 0))
  rc : Row X 3 1 (.slice V1 cs.length c1) cs.length (ivals cs)
  oc : ∀ b ∈ ownB (.slice V1 cs.length c1), w1.heap.size ≤ b ∧ b ≠ N
  rw : Row X 108 4 (.slice V2 ws.length c2) ws.length (wrvals ws)
  ow : ∀ b ∈ ownB (.slice V2 ws.length c2), w1.heap.size ≤ b ∧ b ≠ N ∧ b ∉ ownB (.slice V1 cs.length c1)
section
variable {w1 : World} {N : Nat} {V1 : Option Addr} {c1 : Nat} {cs : List Int} {f : Int} {V2 : Option Addr} {c2 : Nat} {ws : List (Pt × Pt)} {X X' : World}
theorem LB.lt (h : LB w1 N V1 c1 cs f V2 c2 ws X) : N < X.heap.size := heap_lt h.hh
theorem LB.below (h : LB w1 N V1 c1 cs f V2 c2 ws X) (hb : Below X.heap.size X X') : LB w1 N V1 c1 cs f V2 c2 ws X' :=
  ⟨h.bl.trans (hb.mono h.bl.size), h.hN, (hb.block _ h.lt).trans h.hh, h.rc.keep fun b hb2 => hb.block b (h.rc.lt b hb2), h.oc, h.rw.keep fun b hb2 => hb.block b (h.rw.lt b hb2), h.ow⟩
theorem LB.cells (h : LB w1 N V1 c1 cs f V2 c2 ws X) : X.cell? ⟨N, 0, none⟩ = some (.slice V1 cs.length c1) ∧ X.cell? ⟨N, 1, none⟩ = some (.int .i64 f) ∧ X.cell? ⟨N, 2, none⟩ = some (.slice V2 ws.length c2) ∧ X.frozen? ⟨N, 2, none⟩ = false := by
  have hh := h.hh
  simp [World.cell?, World.frozen?, hh]
theorem LB.app (h : LB w1 N V1 c1 cs f V2 c2 ws X) {V5 : Option Addr} {c5 : Nat} {w5 : World} {p q : Pt}
    (k5 : Kp (ownB (.slice V2 ws.length c2)) X w5) (o5 : ownB (.slice V5 (ws.length + 1) c5) = ownB (.slice V2 ws.length c2) ∨ ownB (.slice V5 (ws.length + 1) c5) = [X.heap.size])
    (r5 : Row w5 108 4 (.slice V5 (ws.length + 1) c5) (ws.length + 1) (wrvals ws ++ [.int .i64 p.1, .int .i64 p.2, .int .i64 q.1, .int .i64 q.2])) :
    (w5.cell? ⟨N, 2, none⟩ = some (.slice V2 ws.length c2) ∧ w5.frozen? ⟨N, 2, none⟩ = false) ∧ LB w1 N V1 c1 cs f V5 c5 (ws ++ [(p, q)]) (w5.setCell ⟨N, 2, none⟩ (.slice V5 (ws.length + 1) c5)) := by
  have hn : N ∉ ownB (.slice V2 ws.length c2) := fun hb => (h.ow _ hb).2.1 rfl
  have e3 : w5.heap[N]? = some (.cells #[.slice V1 cs.length c1, .int .i64 f, .slice V2 ws.length c2] 64 (0, 0)) := (k5.block N h.lt hn).trans h.hh
  have hz := h.bl.size
  have h5 : ∀ b ∈ ownB (.slice V5 (ws.length + 1) c5), w1.heap.size ≤ b ∧ b ≠ N ∧ b ∉ ownB (.slice V1 cs.length c1) := fun b hb => by
    rcases o5 with e | e
    · exact h.ow b (e ▸ hb)
    · rw [e] at hb; simp at hb; subst hb
      exact ⟨hz, fun e => absurd h.lt (by rw [← e]; omega), fun hb => absurd (h.rc.lt _ hb) (by omega)⟩
  have hl : (ws ++ [(p, q)]).length = ws.length + 1 := by simp
  refine ⟨⟨by simp [World.cell?, e3], by simp [World.frozen?, e3]⟩, ?_, h.hN, ?_, ?_, h.oc, ?_, ?_⟩
  · exact (h.bl.trans (k5.below hz (fun b hb => (h.ow b hb).1))).setCell (p := ⟨N, 2, none⟩) h.hN _
  · rw [hl]; simp [World.setCell, Array.getElem?_modify, e3]
  · exact h.rc.keep fun b hb => (Below.heap_setCell w5 _ _ b (h.oc b hb).2).trans (k5.block b (h.rc.lt b hb) (fun hb2 => (h.ow b hb2).2.2 hb))
  · rw [wrvals_snoc, hl]
    exact r5.keep fun b hb => Below.heap_setCell w5 _ _ b (h5 b hb).2.1
  · rw [hl]; exact h5
end
section
variable (A : Option Addr) (n cap : Nat) (L : List (ByteArray × Int)) (w : World)
end
end Go.Proofs.YtkonfogebepccaaDoor
/-
  Contracts of rule.Flip, skeinref15.Flipped.
-/
namespace Go.Proofs.YtkonfogebepccaaDoor
open Go.RowKit
attribute [local go_sem] cell_set
set_option maxRecDepth 100000
set_option linter.unusedVariables false

section
variable (A : Option Addr) (n cap : Nat) (L : List (ByteArray × Int)) (a b : Int) (VA VB : Option Addr) (ca cb : Nat) (cells : List Int) (free : Int) (W : List (Pt × Pt)) (w : World)
end
section
variable (A : Option Addr) (n cap : Nat) (L : List (ByteArray × Int)) (ka kb na nb : Nat) (VA VB : Option Addr) (ca cb : Nat) (cells : List Int) (W : List (Pt × Pt)) (w : World)
end
end Go.Proofs.YtkonfogebepccaaDoor
/-
  Contract of skeinref15.Left.
-/
namespace Go.Proofs.YtkonfogebepccaaDoor
open Go.RowKit
attribute [local go_sem] cell_set
set_option maxRecDepth 100000
set_option linter.unusedVariables false

section
variable (A : Option Addr) (n cap : Nat) (L : List (ByteArray × Int)) (w : World)
end
end Go.Proofs.YtkonfogebepccaaDoor
namespace Go.Proofs.YtkonfogebepccaaDoor
open Go.RowKit
attribute [local go_sem] cell_set
attribute [local go_sem high] run_eql_wire
set_option maxRecDepth 100000
set_option linter.unusedVariables false

section
variable (A : Option Addr) (n cap : Nat) (L : List (ByteArray × Int)) (w : World)
end
/-! ### works -/
def Lit15 (b : Nat) (X : World) : Prop := X.heap[b]? = some (.cells #[.string ⟨#[90]⟩, .int .i64 0, .string ⟨#[65]⟩, .int .i64 2] 106 (0, 0)) ∧ X.heap[b + 1]? = some (.cells #[.int .i64 (-1), .int .i64 1, .int .i64 (-1), .int .i64 0] 108 (0, 0)) ∧
  X.heap[b + 2]? = some (.cells #[.int .i64 1, .int .i64 0, .slice none 0 0, .int .i64 2, .slice (some ⟨b + 1, 0, none⟩) 1 1] 153 (0, 0))
theorem Lit15.below {b : Nat} {X X' : World} (h : Lit15 b X) (hb : Below X.heap.size X X') : Lit15 b X' :=
  ⟨(hb.block _ (heap_lt h.1)).trans h.1, (hb.block _ (heap_lt h.2.1)).trans h.2.1, (hb.block _ (heap_lt h.2.2)).trans h.2.2⟩
end Go.Proofs.YtkonfogebepccaaDoor
/-
  The walk of RuleChecks.
-/
/-
  Contracts of skeinref15.Faces, Flipped.
-/
namespace Go.Proofs.YtkonfogebepccaaDoor
open Go.RowKit
attribute [local go_sem] cell_set
set_option maxRecDepth 100000
set_option linter.unusedVariables false

section
variable (A : Option Addr) (n cap : Nat) (L : List (ByteArray × Int)) (ka kb na nb : Nat) (VA VB : Option Addr) (ca cb : Nat) (cells : List Int) (W : List (Pt × Pt)) (w : World)
end
end Go.Proofs.YtkonfogebepccaaDoor
/-
  Contract of skeinref15.Neat.
-/
namespace Go.Proofs.YtkonfogebepccaaDoor
open Go.RowKit
attribute [local go_sem] cell_set
set_option maxRecDepth 100000
set_option linter.unusedVariables false

section
variable (A : Option Addr) (n cap : Nat) (L : List (ByteArray × Int)) (a b : Int) (VA VB : Option Addr) (ca cb : Nat) (cells : List Int) (free : Nat) (W : List (Pt × Pt)) (w : World)
end
end Go.Proofs.YtkonfogebepccaaDoor
namespace Go.Proofs.YtkonfogebepccaaDoor
open Go.RowKit
attribute [local go_sem] cell_set
set_option maxRecDepth 100000
set_option linter.unusedVariables false

/-- A rule in a box, with its lists. -/
def RLs (k : Nat) (a b : Int) (VA : Option Addr) (ca : Nat) (cells : List Int) (free : Int) (VB : Option Addr) (cb : Nat) (W : List (Pt × Pt)) (X : World) : Prop := RBx X k a b VA cells.length ca free VB W.length cb ∧ IntsRd X VA cells ∧ WrRd X VB W
section
variable {k : Nat} {a b : Int} {VA : Option Addr} {ca : Nat} {cells : List Int} {free : Int} {VB : Option Addr} {cb : Nat} {W : List (Pt × Pt)} {X X' : World}
theorem RLs.below (h : RLs k a b VA ca cells free VB cb W X) (hb : Below X.heap.size X X') : RLs k a b VA ca cells free VB cb W X' := ⟨h.1.below hb, h.2.1.below hb, h.2.2.below hb⟩
theorem RLs.c (h : RLs k a b VA ca cells free VB cb W X) : X.cell? ⟨k, 0, none⟩ = some (.int .i64 a) ∧ X.cell? ⟨k, 1, none⟩ = some (.int .i64 b) ∧ X.cell? ⟨k, 2, none⟩ = some (.slice VA cells.length ca) ∧ X.cell? ⟨k, 3, none⟩ = some (.int .i64 free) ∧ X.cell? ⟨k, 4, none⟩ = some (.slice VB W.length cb) := ⟨h.1.c0, h.1.c1, h.1.c2, h.1.c3, h.1.c4⟩
theorem RLs.new (X : World) (h1 : IntsRd X VA cells) (h2 : WrRd X VB W) : RLs X.heap.size a b VA ca cells free VB cb W (X.alloc (.cells #[.int .i64 a, .int .i64 b, .slice VA cells.length ca, .int .i64 free, .slice VB W.length cb] 153)) :=
  ⟨⟨by simp, by go_simp, by go_simp, by go_simp, by go_simp, by go_simp⟩, h1.below ((Below.refl _ _).alloc (Nat.le_refl _) _), h2.below ((Below.refl _ _).alloc (Nat.le_refl _) _)⟩
end
/-- A rule that may be, with all that is known of it. -/
structure RuleK (L : List (ByteArray × Int)) (ka kb na nb M : Nat) (cells : List Int) (W : List (Pt × Pt)) : Prop where
  sg : (chk L).1 = 0
  a : ka < L.length
  b : kb < L.length
  ea : agA L ka = na
  eb : agA L kb = nb
  m : M = na + nb
  a6 : na ≤ 6
  b6 : nb ≤ 6
  c32 : cells.length ≤ 32
  ag : ∀ i, i < cells.length → 0 ≤ cells.getD i 0 ∧ cells.getD i 0 < L.length
  ok : NetOk (pnL L) cells M W
theorem RuleK.chk {L : List (ByteArray × Int)} {ka kb na nb M : Nat} {cells : List Int} {W : List (Pt × Pt)} (h : RuleK L ka kb na nb M cells W) : ruleChk L ka kb cells (M : Int) W = (0, 0) := by
  have hm := h.m
  have ha6 := h.a6
  have hb6 := h.b6
  have hc := h.c32
  have hka := h.a
  have hkb := h.b
  exact rc_ok h.sg (by omega) (by omega) (by rw [netChk_of h.sg (by omega) (by omega) h.ag h.ok]) hc (by rw [Int.toNat_natCast, Int.toNat_natCast, h.ea, h.eb]; omega)
theorem RuleK.tidy {L : List (ByteArray × Int)} {ka kb na nb M : Nat} {cells : List Int} {W : List (Pt × Pt)} (h : RuleK L ka kb na nb M cells W) : RuleK L ka kb na nb M cells (tidyW (allPs (pnL L) cells M) W) :=
  ⟨h.sg, h.a, h.b, h.ea, h.eb, h.m, h.a6, h.b6, h.c32, h.ag, h.ok.tidy⟩
theorem RuleK.back {L : List (ByteArray × Int)} {ka kb na nb M : Nat} {cells : List Int} {W : List (Pt × Pt)} (h : RuleK L ka kb na nb M cells W) : tidyW (allPs (pnL L) cells M) (moveW (idsN cells.length) (flipN nb na M) (tidyW (allPs (pnL L) cells M) (moveW (idsN cells.length) (flipN na nb M) W))) = tidyW (allPs (pnL L) cells M) W := by
  have hok := h.ok
  have hm := h.m
  subst hm
  exact flip_back hok
theorem RuleK.len {L : List (ByteArray × Int)} {ka kb na nb M : Nat} {cells : List Int} {W : List (Pt × Pt)} (h : RuleK L ka kb na nb M cells W) (W' : List (Pt × Pt)) : (tidyW (allPs (pnL L) cells M) W').length ≤ 500 := by
  have h1 : (tidyW (allPs (pnL L) cells M) W').length ≤ (allPs (pnL L) cells M).length := List.length_filterMap_le _ _
  have h2 := firstN_le (pnL_le (chk_sig h.sg)) cells M cells.length
  rw [allPs_len] at h1
  have := h.m
  have := h.a6
  have := h.b6
  have := h.c32
  omega
section
variable (A : Option Addr) (n cap : Nat) (L : List (ByteArray × Int)) (w : World)
end
end Go.Proofs.YtkonfogebepccaaDoor
/-
  Plain: a rule's right side as a table, and the table as that rule.
-/
namespace Go.Proofs.YtkonfogebepccaaDoor
set_option linter.unusedVariables false

section
variable {pn : Int → Nat} {cells : List Int} {M : Nat} {W : List (Pt × Pt)} (h : NetOk pn cells M W)
include h
end
end Go.Proofs.YtkonfogebepccaaDoor
namespace Go.Proofs.YtkonfogebepccaaDoor
open Go.RowKit
attribute [local go_sem] cell_set
attribute [local go_sem high] run_neq_port
set_option maxRecDepth 100000
set_option linter.unusedVariables false

theorem setRow_other (w : World) (g : Nat) (cs : Array Value) (b : Nat) (h : b ≠ g) : (w.setRow g cs).heap[b]? = w.heap[b]? := by
  simp [World.setRow, Array.getElem?_modify, Ne.symm h]
section
variable {P : Program} {w : World} {o : Oper} {a : Act} {K' : Act → World → Prop} {Q : Exit → Act → World → Prop}
end
theorem eq_ports (A B : Option Addr) (n m ca cb : Nat) (l : List Pt) (w : World) (hn : n = l.length) (hm : m = l.length) (hl : l.length ≤ 100000) (HA : Hid (PtsRd w A l)) (HB : Hid (PtsRd w B l)) :
    Calls Tryd.prog 34 #[.slice A n ca, .slice B m cb] w fun e w' => e = .returned (.bool true) ∧ Below w.heap.size w w' := by
  subst hn hm
  go_enter Tryd.func34, Tryd.ntmps34
  go_wp2
  go_loopw [5] (fun i wr => ∃ j : Nat, i = .int .i64 j ∧ j ≤ l.length ∧ Hid (Below w.heap.size w wr)) (fun i _ => l.length - (intOf i).toNat)
  case atStart => exact ⟨0, rfl, by omega, Below.refl _ _⟩
  case round =>
    obtain ⟨j, rfl, hj, hbw⟩ := hrel
    by_cases hlt : j < l.length
    · obtain ⟨b, off, rfl, hb, e0, e1⟩ := HA.out j hlt
      obtain ⟨b2, off2, rfl, hb2, g0, g1⟩ := HB.out j hlt
      have c0 := (hbw.out.cell (p := ⟨b, off + j * 2, none⟩) hb).trans e0
      have c1 := (hbw.out.cell (p := ⟨b, off + j * 2 + 1, none⟩) hb).trans e1
      have d0 := (hbw.out.cell (p := ⟨b2, off2 + j * 2, none⟩) hb2).trans g0
      have d1 := (hbw.out.cell (p := ⟨b2, off2 + j * 2 + 1, none⟩) hb2).trans g1
      have hb1 : eqP (l.getD j default) (l.getD j default) = true := by unfold eqP; simp
      clear e0 e1 g0 g1
      generalize l.getD j default = x at c0 c1 d0 d1 hb1
      obtain ⟨x0, x1⟩ := x
      go_wp2_with fail
      go_quiet (fail)
      go_wp2
      go_roundw
      case rel => exact ⟨j + 1, by go_num, by omega, below_drewN hbw.out _⟩
      case measure => simp [intOf]; omega
    · go_wp2
      go_ret
      exact ⟨rfl, hbw.out⟩
/-- A plan's lists. -/
def PLs (V1 V2 V3 : Option Addr) (cs : List Int) (F : List Pt) (I : List (Pt × Pt)) (X : World) : Prop := IntsRd X V1 cs ∧ PtsRd X V2 F ∧ WrRd X V3 I
theorem PLs.below {V1 V2 V3 : Option Addr} {cs : List Int} {F : List Pt} {I : List (Pt × Pt)} {X X' : World} (h : PLs V1 V2 V3 cs F I X) (hb : Below X.heap.size X X') : PLs V1 V2 V3 cs F I X' := ⟨h.1.below hb, h.2.1.below hb, h.2.2.below hb⟩
end Go.Proofs.YtkonfogebepccaaDoor
