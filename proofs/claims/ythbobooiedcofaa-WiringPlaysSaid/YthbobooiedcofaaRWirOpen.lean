/-
  The document's wiring: Open.
-/
import Derived.Test.YthbobooiedcofaaRWirAll
import Derived.Test.YthbobooiedcofaaWirOpen
namespace Go.Proofs.Ythbobooiedcofaa
open Go.RowKit
attribute [local go_sem] cell_set
set_option maxRecDepth 100000
set_option linter.unusedVariables false

/-- A list of ports in memory. -/
def PtR (w : World) (A : Option Addr) (P : List Pt) : Prop := ∀ i, i < P.length → ∃ b, A = some ⟨b, 0, none⟩ ∧ b < w.heap.size ∧ w.cell? ⟨b, i * 2, none⟩ = some (.int .i64 (P.getD i default).1) ∧ w.cell? ⟨b, i * 2 + 1, none⟩ = some (.int .i64 (P.getD i default).2)
theorem PtR.below {w w' : World} {A : Option Addr} {P : List Pt} (h : PtR w A P) (hb : Below w.heap.size w w') : PtR w' A P := fun i hi => by
  obtain ⟨b, e, hl, h0, h1⟩ := h i hi
  exact ⟨b, e, Nat.lt_of_lt_of_le hl hb.size, (hb.cell (p := ⟨b, _, none⟩) hl).trans h0, (hb.cell (p := ⟨b, _, none⟩) hl).trans h1⟩
theorem AL.rd {w W : World} {l : List Pt} {V : Option Addr} {c : Nat} (h : AL w l V c W) : PtR W V l := fun i hi => by
  obtain ⟨g, c', cur, e, hg, _⟩ := h.row.some_ (by omega)
  simp only [Value.slice.injEq, true_and] at e
  obtain ⟨rfl, rfl⟩ := e
  obtain ⟨a0, a1⟩ := ptvals_at l i hi
  exact ⟨g, rfl, heap_lt hg, (h.row.cellAt _ (by omega)).trans a0, (h.row.cellAt _ (by omega)).trans a1⟩
theorem openN_take (S : Wir) {l : List Pt} {k : Nat} (hk : k < l.length) : S.openN (l.take (k + 1)) = S.openN (l.take k) + (if S.toE (l.getD k default) = 0 then 0 else 1) := by
  have e : l.take (k + 1) = l.take k ++ [l.getD k default] := by rw [List.take_add_one, List.getElem?_eq_getElem hk, List.getD_eq_getElem?_getD, List.getElem?_eq_getElem hk]; rfl
  rw [e, Wir.openN_snoc]
section
variable (B A : Nat) (S : Wir) (FA : List Nat) (w : World)
set_option maxHeartbeats 4000000 in
theorem rw_open (h : RG w B A S FA) :
    Calls Try.prog 69 #[.pointer (some ⟨B, 0, none⟩)] w fun e w' => e = .returned (.int .i64 (S.openN S.pts : Int)) ∧ Below w.heap.size w w' := by
  have HG := Lib.hid h
  have hle := opens_le h.ok
  obtain ⟨l, hl⟩ : ∃ l, S.pts = l := ⟨_, rfl⟩
  have HLE := Lib.hid hl
  rw [hl] at hle ⊢
  go_enter Try.func69, Try.ntmps69
  go_wp2_with fail
  refine (rw_all B A S FA w h).mono ?_
  rintro e w1 ⟨V, c, rfl, hal⟩
  rw [hl] at hal ⊢
  have HP := Lib.hid hal.rd
  have HB := Lib.hid hal.below
  have H0 : Hid (Below w.heap.size w w1 ∧ Below w1.heap.size w1 w1) := ⟨hal.below, Below.refl _ _⟩
  clear hal hl
  simp only []
  go_wp2_with fail
  go_loopw [3, 5] (fun x i wr => ∃ k : Nat, i = .int .i64 k ∧ k ≤ l.length ∧ x = .int .i64 (S.openN (l.take k) : Nat) ∧ Hid (Below w.heap.size w wr ∧ Below w1.heap.size w1 wr)) (fun _ i _ => l.length - (intOf i).toNat)
  case atStart => exact ⟨0, rfl, Nat.zero_le _, rfl, H0⟩
  case round =>
    obtain ⟨k, rfl, hk, rfl, HR⟩ := hrel
    clear H0
    by_cases hlt : k < l.length
    · obtain ⟨b, rfl, hb, p0, p1⟩ := (HP.out.below HR.out.2) k hlt
      have hnx := openN_take S hlt
      have hon : S.openN (l.take k) ≤ 30000 := Nat.le_trans (Wir.openN_le _ _) (by rw [List.length_take]; omega)
      generalize l.getD k default = p at p0 p1 hnx
      obtain ⟨x, y⟩ := p
      obtain ⟨m, hm⟩ : ∃ m, S.openN (l.take k) = m := ⟨_, rfl⟩
      rw [hm] at hnx hon ⊢
      have HNX := Lib.hid hnx
      obtain ⟨ke, hke⟩ : ∃ ke, S.toE (x, y) = ke := ⟨_, rfl⟩
      rw [hke] at hnx
      have HKE := Lib.hid hke
      dsimp only at p0 p1
      by_cases h0 : ke = 0
      · subst h0
        have hnn : S.openN (l.take (k + 1)) = m := by rw [HNX.out, hke, if_pos rfl]; omega
        have HNN := Lib.hid hnn
        clear hnn hnx hke HNX hm
        go_wp2_with (go_at_call 18; refine (rw_to B A S FA _ x y (HG.out.below HR.out.1)).mono ?_; rintro e w2 ⟨rfl, hb2⟩; rw [HKE.out]
                     have HB2 := Lib.hid (hb2.alloc hb2.size (.cells #[.int .i64 (S.toP (x, y)).1, .int .i64 (S.toP (x, y)).2] 39))
                     clear hb2)
        go_roundw
        case measure => simp [intOf]; omega
        case rel => exact ⟨k + 1, by go_num, by omega, by rw [HNN.out], HR.out.1.trans (HB2.out.mono HR.out.1.size), HR.out.2.trans (HB2.out.mono HR.out.2.size)⟩
      · have k1 : (ke != 0) = true := bne_iff_ne.2 h0
        have hnn : S.openN (l.take (k + 1)) = m + 1 := by rw [HNX.out, hke, if_neg h0]
        have HNN := Lib.hid hnn
        clear hnn hnx hke HNX hm h0
        go_wp2_with (go_at_call 18; refine (rw_to B A S FA _ x y (HG.out.below HR.out.1)).mono ?_; rintro e w2 ⟨rfl, hb2⟩; rw [HKE.out]
                     have HB2 := Lib.hid (hb2.alloc hb2.size (.cells #[.int .i64 (S.toP (x, y)).1, .int .i64 (S.toP (x, y)).2] 39))
                     clear hb2)
        go_roundw
        case measure => simp [intOf]; omega
        case rel => exact ⟨k + 1, by go_num, by omega, by rw [HNN.out]; go_num, HR.out.1.trans (HB2.out.mono HR.out.1.size), HR.out.2.trans (HB2.out.mono HR.out.2.size)⟩
    · obtain rfl : k = l.length := by omega
      have hta : l.take l.length = l := List.take_length
      rw [hta]
      go_wp2_with fail
      go_ret
      exact ⟨rfl, HR.out.1⟩
end
end Go.Proofs.Ythbobooiedcofaa
