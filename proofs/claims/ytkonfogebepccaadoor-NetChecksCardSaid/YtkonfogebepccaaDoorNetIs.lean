/-
  Contract of net.Check$1: is it a port?
-/
import Derived.Test.YtkonfogebepccaaDoorNetSeq
import Derived.Test.YtkonfogebepccaaDoorEqN
import Derived.Test.YtkonfogebepccaaDoorRangeBox
/-
  Maps whose keys are ports.
-/
namespace Go.Proofs.YtkonfogebepccaaDoor
open Go.RowKit
set_option maxRecDepth 100000
set_option linter.unusedVariables false

def encPt (p : Pt) : Value := .agg #[.int .i64 p.1, .int .i64 p.2]
theorem zport : ∀ W, (zeroValue 83).run Tryd.prog W = .ok (encPt (0, 0)) W := fun W => by kernel_rfl
theorem chk_int (b : Bool) (n : Nat) (x : Int) (W : World) : (Instr.checkKey b (n + 1) 3 (.int .i64 x)).run Tryd.prog W = .ok () W := by
  rw [Instr.checkKey]
  simp [run_underlying Tryd.underlying3]
theorem kport : KOk Tryd.prog 83 encPt :=
  KOk.agg (fun p => #[.int .i64 p.1, .int .i64 p.2]) (fun _ => rfl) Tryd.underlying83
    (fun a b W => by
      have := run_equal_port 9997 a.1 a.2 b.1 b.2 W
      unfold eqP at this
      exact this)
    (fun b a W => by
      unfold encPt
      rw [show (10000 : Nat) = 9999 + 1 from rfl, Instr.checkKey]
      go_simp
      have h1 := chk_int b 9998 a.1 W
      have h2 := chk_int b 9998 a.2 W
      simp only [Nat.reduceAdd] at h1 h2
      rw [h1]
      exact h2)
    (fun a => by
      unfold encPt
      simp [Instr.sameBits])
end Go.Proofs.YtkonfogebepccaaDoor
namespace Go.Proofs.YtkonfogebepccaaDoor
open Go.RowKit
attribute [local go_sem] cell_set
set_option maxRecDepth 100000
set_option linter.unusedVariables false

section
variable (Bn Bs : Nat) (A : Option Addr) (cap : Nat) (L : List (ByteArray × Int)) (VA VB : Option Addr) (ca cb : Nat) (cells : List Int) (free n2 : Nat) (c s : Int) (w : World)
set_option maxHeartbeats 400000 in
theorem is_free (hP : Hid (PSet w Bn Bs A cap L VA VB ca cb cells free n2)) (hf : free ≤ 100) (hc1 : c = -1) :
    Calls Tryd.prog 69 #[.agg #[.int .i64 c, .int .i64 s], .pointer (some ⟨Bn, 0, none⟩), .pointer (some ⟨Bs, 0, none⟩)] w fun e w' => e = .returned (.bool (isPt (pnL L) cells free (c, s))) ∧ Below w.heap.size w w' := by
  subst hc1
  have n1 := hP.out.n.c1
  have nl := hP.out.n.lt
  have HP : Hid (isPt (pnL L) cells free (-1, s) = decide (0 ≤ s ∧ s < free)) := by
    show _ = _
    unfold isPt
    rw [if_pos rfl]
  rcases (by omega : s < 0 ∨ (0 ≤ s ∧ (free : Int) ≤ s) ∨ (0 ≤ s ∧ s < free)) with h | ⟨h, h'⟩ | ⟨h, h'⟩
  all_goals
    go_enter Tryd.func69, Tryd.ntmps69
    go_wp2
    go_ret
    exact ⟨ret_b (by rw [HP.out]; simp; omega), by (repeat (first | exact Below.refl _ _ | (with_reducible refine Below.drew ?_) | (with_reducible refine Below.alloc ?_ (by (try simp); (try omega)) _) | (with_reducible refine Below.setCell ?_ (by (try simp); (try omega)) _) | (with_reducible refine Below.trans ?_ (Below.mono (by assumption) (by (try simp); (try omega))))))⟩
set_option maxHeartbeats 400000 in
theorem is_neg (hP : Hid (PSet w Bn Bs A cap L VA VB ca cb cells free n2)) (hc1 : c ≠ -1) (h : c < 0) :
    Calls Tryd.prog 69 #[.agg #[.int .i64 c, .int .i64 s], .pointer (some ⟨Bn, 0, none⟩), .pointer (some ⟨Bs, 0, none⟩)] w fun e w' => e = .returned (.bool (isPt (pnL L) cells free (c, s))) ∧ Below w.heap.size w w' := by
  have hcb : (c == -1) = false := by rw [beq_eq_false_iff_ne]; exact hc1
  have HP : Hid (isPt (pnL L) cells free (c, s) = false) := by
    show _ = _
    unfold isPt
    rw [if_neg hc1]; simp; omega
  have d1 : decide (0 ≤ c) = false := by simpa using h
  go_enter Tryd.func69, Tryd.ntmps69
  go_wp2_with fail
  refine absW (fun X => Below w.heap.size w X ∧ X.cell? ⟨w.heap.size, 0, none⟩ = some (.int .i64 c) ∧ X.cell? ⟨w.heap.size, 1, none⟩ = some (.int .i64 s)) ⟨(Below.refl _ _).alloc (Nat.le_refl _) _, by go_simp, by go_simp⟩ ?_
  rintro X ⟨hbX, x1, x2⟩
  have HX := Lib.hid hbX
  clear hbX
  go_quiet (fail)
  go_wp2
  go_ret
  exact ⟨ret_b HP.out.symm, below_drewN HX.out _⟩
set_option maxHeartbeats 400000 in
theorem is_big (hP : Hid (PSet w Bn Bs A cap L VA VB ca cb cells free n2)) (h : 0 ≤ c ∧ (cells.length : Int) ≤ c) :
    Calls Tryd.prog 69 #[.agg #[.int .i64 c, .int .i64 s], .pointer (some ⟨Bn, 0, none⟩), .pointer (some ⟨Bs, 0, none⟩)] w fun e w' => e = .returned (.bool (isPt (pnL L) cells free (c, s))) ∧ Below w.heap.size w w' := by
  obtain ⟨h, h'⟩ := h
  have hcb : (c == -1) = false := by rw [beq_eq_false_iff_ne]; omega
  have HP : Hid (isPt (pnL L) cells free (c, s) = false) := by
    show _ = _
    unfold isPt
    rw [if_neg (by omega)]; simp; omega
  have d1 : decide (0 ≤ c) = true := by simpa using h
  have d2 : decide (c < (cells.length : Int)) = false := by simpa using h'
  have n0 := hP.out.n.c0
  have nl := hP.out.n.lt
  go_enter Tryd.func69, Tryd.ntmps69
  go_wp2_with fail
  refine absW (fun X => Below w.heap.size w X ∧ X.cell? ⟨w.heap.size, 0, none⟩ = some (.int .i64 c) ∧ X.cell? ⟨w.heap.size, 1, none⟩ = some (.int .i64 s) ∧ X.cell? ⟨Bn, 0, none⟩ = some (.slice VA cells.length ca)) ⟨(Below.refl _ _).alloc (Nat.le_refl _) _, by go_simp, by go_simp, by go_simp⟩ ?_
  rintro X ⟨hbX, x1, x2, x3⟩
  have HX := Lib.hid hbX
  clear hbX n0
  go_quiet (fail)
  go_wp2
  go_ret
  exact ⟨ret_b HP.out.symm, below_drewN HX.out _⟩
set_option maxHeartbeats 400000 in
theorem is_slot (hP : Hid (PSet w Bn Bs A cap L VA VB ca cb cells free n2)) (h : 0 ≤ c ∧ c < cells.length ∧ s < 0) :
    Calls Tryd.prog 69 #[.agg #[.int .i64 c, .int .i64 s], .pointer (some ⟨Bn, 0, none⟩), .pointer (some ⟨Bs, 0, none⟩)] w fun e w' => e = .returned (.bool (isPt (pnL L) cells free (c, s))) ∧ Below w.heap.size w w' := by
  obtain ⟨h, h', h''⟩ := h
  have hcb : (c == -1) = false := by rw [beq_eq_false_iff_ne]; omega
  have HP : Hid (isPt (pnL L) cells free (c, s) = false) := by
    show _ = _
    unfold isPt
    rw [if_neg (by omega)]; simp; omega
  have d1 : decide (0 ≤ c) = true := by simpa using h
  have d2 : decide (c < (cells.length : Int)) = true := by simpa using h'
  have d3 : decide (0 ≤ s) = false := by simpa using h''
  have n0 := hP.out.n.c0
  have nl := hP.out.n.lt
  go_enter Tryd.func69, Tryd.ntmps69
  go_wp2_with fail
  refine absW (fun X => Below w.heap.size w X ∧ X.cell? ⟨w.heap.size, 0, none⟩ = some (.int .i64 c) ∧ X.cell? ⟨w.heap.size, 1, none⟩ = some (.int .i64 s) ∧ X.cell? ⟨Bn, 0, none⟩ = some (.slice VA cells.length ca)) ⟨(Below.refl _ _).alloc (Nat.le_refl _) _, by go_simp, by go_simp, by go_simp⟩ ?_
  rintro X ⟨hbX, x1, x2, x3⟩
  have HX := Lib.hid hbX
  clear hbX n0
  go_quiet (fail)
  go_wp2
  go_ret
  exact ⟨ret_b HP.out.symm, below_drewN HX.out _⟩
set_option maxHeartbeats 800000 in
theorem is_ok (hP : Hid (PSet w Bn Bs A cap L VA VB ca cb cells free n2)) (hs : SigOk L) (hc : cells.length ≤ 5000) (h : 0 ≤ c ∧ c < cells.length ∧ 0 ≤ s) :
    Calls Tryd.prog 69 #[.agg #[.int .i64 c, .int .i64 s], .pointer (some ⟨Bn, 0, none⟩), .pointer (some ⟨Bs, 0, none⟩)] w fun e w' => e = .returned (.bool (isPt (pnL L) cells free (c, s))) ∧ Below w.heap.size w w' := by
  have hll := hs.len
  obtain ⟨h, h', h''⟩ := h
  obtain ⟨k, rfl⟩ := Int.eq_ofNat_of_zero_le h
  have hk : k < cells.length := by omega
  have HP : Hid (isPt (pnL L) cells free ((k : Int), s) = decide (s < (pnL L (cells.getD k 0) : Int))) := by
    show _ = _
    unfold isPt
    rw [if_neg (by show ¬ (k : Int) = -1; omega)]
    refine decide_eq_decide.2 ?_
    dsimp only
    rw [Int.toNat_natCast]; omega
  obtain ⟨b, off, rfl, hb, e0⟩ := hP.out.c k hk
  have hp := Lib.hid (hs.ports (cells.getD k 0))
  have HPE := Lib.hid (pnL_eq hs (cells.getD k 0))
  have hp7 := pnL_le hs (cells.getD k 0)
  generalize cells.getD k 0 = x at e0 HP hp HPE hp7
  have d0 : ((k : Int) == -1) = false := by rw [beq_eq_false_iff_ne]; omega
  have d1 : decide (0 ≤ (k : Int)) = true := by simp
  have d2 : decide ((k : Int) < (cells.length : Int)) = true := by simpa using hk
  have d3 : decide (0 ≤ s) = true := by simpa using h''
  have n0 := hP.out.n.c0
  have nl := hP.out.n.lt
  have s0 := hP.out.s
  have sl := hP.out.sl
  have HL := Lib.hid hP.out.a
  clear hs
  go_enter Tryd.func69, Tryd.ntmps69
  go_wp2_with fail
  refine absW (fun X => Below w.heap.size w X ∧ X.cell? ⟨w.heap.size, 0, none⟩ = some (.int .i64 (k : Int)) ∧ X.cell? ⟨w.heap.size, 1, none⟩ = some (.int .i64 s) ∧ X.cell? ⟨Bn, 0, none⟩ = some (.slice (some ⟨b, off, none⟩) cells.length ca) ∧ X.cell? ⟨Bs, 0, none⟩ = some (.slice A L.length cap)) ⟨(Below.refl _ _).alloc (Nat.le_refl _) _, by go_simp, by go_simp, by go_simp, by go_simp⟩ ?_
  rintro X ⟨hbX, x1, x2, x3, x4⟩
  have HX := Lib.hid hbX
  have y0 : X.cell? ⟨b, off + k, none⟩ = some (.int .i64 x) := (hbX.cell (p := ⟨b, off + k, none⟩) hb).trans e0
  have HQ : Hid (∀ n, AgRd (X.drewN n) A L) := fun n => HL.out.below (below_drewN hbX n)
  clear hbX n0 e0 s0
  go_quiet (exact Calls.quiet_of_same ((ports_any _ _ _ L _ _ rfl (by simp only [maxLen]; omega) (HQ.out _) hp.out.2.2).mono fun e w' h => ⟨by rw [h.1, HPE.out], h.2.symm⟩))
  go_wp2
  go_ret
  exact ⟨ret_b HP.out.symm, below_drewN HX.out _⟩
theorem is_any (hP : Hid (PSet w Bn Bs A cap L VA VB ca cb cells free n2)) (hs : SigOk L) (hc : cells.length ≤ 5000) (hf : free ≤ 100) :
    Calls Tryd.prog 69 #[.agg #[.int .i64 c, .int .i64 s], .pointer (some ⟨Bn, 0, none⟩), .pointer (some ⟨Bs, 0, none⟩)] w fun e w' => e = .returned (.bool (isPt (pnL L) cells free (c, s))) ∧ Below w.heap.size w w' := by
  by_cases hc1 : c = -1
  · exact is_free Bn Bs A cap L VA VB ca cb cells free n2 c s w hP hf hc1
  · rcases (by omega : c < 0 ∨ (0 ≤ c ∧ (cells.length : Int) ≤ c) ∨ (0 ≤ c ∧ c < cells.length ∧ s < 0) ∨ (0 ≤ c ∧ c < cells.length ∧ 0 ≤ s)) with h | h | h | h
    · exact is_neg Bn Bs A cap L VA VB ca cb cells free n2 c s w hP hc1 h
    · exact is_big Bn Bs A cap L VA VB ca cb cells free n2 c s w hP h
    · exact is_slot Bn Bs A cap L VA VB ca cb cells free n2 c s w hP h
    · exact is_ok Bn Bs A cap L VA VB ca cb cells free n2 c s w hP hs hc h
end
end Go.Proofs.YtkonfogebepccaaDoor
