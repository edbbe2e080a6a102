/-
  Contract of net.Move.
-/
import Derived.Test.YtcebejcdfdahjaaNetTop
namespace Go.Proofs.Ytcebejcdfdahjaa
open Go.RowKit Go.Shelf
attribute [local go_sem] cell_set
set_option maxRecDepth 100000
set_option linter.unusedVariables false

set_option maxHeartbeats 400000 in
theorem move_to (Bf Bc : Nat) (VF VC : Option Addr) (cf cc : Nat) (cs fs : List Int) (c s : Int) (w : World) (hF : w.cell? ⟨Bf, 0, none⟩ = some (.slice VF fs.length cf)) (hC : w.cell? ⟨Bc, 0, none⟩ = some (.slice VC cs.length cc)) (hfl : Bf < w.heap.size) (hcl : Bc < w.heap.size)
    (HF : Hid (IntsRd w VF fs)) (HC : Hid (IntsRd w VC cs)) (hl1 : fs.length ≤ 100000) (hl2 : cs.length ≤ 100000) (h : (c < 0 ∧ 0 ≤ s ∧ s < fs.length) ∨ (0 ≤ c ∧ c < cs.length)) :
    Calls Try.prog 63 #[.agg #[.int .i64 c, .int .i64 s], .pointer (some ⟨Bf, 0, none⟩), .pointer (some ⟨Bc, 0, none⟩)] w fun e w' => e = .returned (encPt (toPt cs fs (c, s))) ∧ Below w.heap.size w w' := by
  rcases h with ⟨h1, h2, h3⟩ | ⟨h1, h2⟩
  · obtain ⟨k, rfl⟩ := Int.eq_ofNat_of_zero_le h2
    have hk : k < fs.length := by omega
    obtain ⟨b, off, rfl, hb, e0⟩ := HF.out k hk
    have HT : Hid (toPt cs fs (c, (k : Int)) = (-1, fs.getD k 0)) := by show _ = _; unfold toPt; rw [if_pos h1]; rfl
    generalize fs.getD k 0 = x at e0 HT
    go_enter Try.func63, Try.ntmps63
    go_wp2
    exact bodyPost_ret (v := encPt (-1, x)) (by unfold encPt; simp only [results, Try.results63]; go_simp) rfl ⟨by rw [HT.out], by (repeat (first | exact Below.refl _ _ | (with_reducible refine Below.drew ?_) | (with_reducible refine Below.alloc ?_ (by (try simp); (try omega)) _) | (with_reducible refine Below.setCell ?_ (by (try simp); (try omega)) _) | (with_reducible refine Below.trans ?_ (Below.mono (by assumption) (by (try simp); (try omega))))))⟩
  · obtain ⟨k, rfl⟩ := Int.eq_ofNat_of_zero_le h1
    have hk : k < cs.length := by omega
    obtain ⟨b, off, rfl, hb, e0⟩ := HC.out k hk
    have HT : Hid (toPt cs fs ((k : Int), s) = (cs.getD k 0, s)) := by show _ = _; unfold toPt; rw [if_neg (by show ¬ (k : Int) < 0; omega)]; rfl
    generalize cs.getD k 0 = x at e0 HT
    go_enter Try.func63, Try.ntmps63
    go_wp2_with fail
    (refine region_tail 8 (by kernel_rfl) (by kernel_rfl) ?_; simp only [List.take_succ_cons, List.take_zero, List.drop_succ_cons, List.drop_zero]; repeat still_step; try refine wpStill_nil ?_)
    go_wp2
    exact bodyPost_ret (v := encPt (x, s)) (by unfold encPt; simp only [results, Try.results63]; go_simp) rfl ⟨by rw [HT.out], by (repeat (first | exact Below.refl _ _ | (with_reducible refine Below.drew ?_) | (with_reducible refine Below.alloc ?_ (by (try simp); (try omega)) _) | (with_reducible refine Below.setCell ?_ (by (try simp); (try omega)) _) | (with_reducible refine Below.trans ?_ (Below.mono (by assumption) (by (try simp); (try omega))))))⟩
theorem move_to2 {Bf Bc : Nat} {VF VC : Option Addr} {cf cc : Nat} {cs fs : List Int} {w : World} (p : Pt) (hF : w.cell? ⟨Bf, 0, none⟩ = some (.slice VF fs.length cf)) (hC : w.cell? ⟨Bc, 0, none⟩ = some (.slice VC cs.length cc)) (hfl : Bf < w.heap.size) (hcl : Bc < w.heap.size)
    (HF : IntsRd w VF fs) (HC : IntsRd w VC cs) (hl1 : fs.length ≤ 100000) (hl2 : cs.length ≤ 100000) {pn : Int → Nat} {cells : List Int} {free : Nat} (hp : isPt pn cells free p = true) (h1 : fs.length = free) (h2 : cs.length = cells.length) :
    Calls Try.prog 63 #[.agg #[.int .i64 p.1, .int .i64 p.2], .pointer (some ⟨Bf, 0, none⟩), .pointer (some ⟨Bc, 0, none⟩)] w fun e w' => e = .returned (encPt (toPt cs fs p)) ∧ Below w.heap.size w w' := by
  refine move_to Bf Bc VF VC cf cc cs fs p.1 p.2 w hF hC hfl hcl HF HC hl1 hl2 ?_
  unfold isPt at hp
  by_cases hc : p.1 = -1
  · rw [if_pos hc, decide_eq_true_eq] at hp; exact .inl ⟨by omega, by omega, by omega⟩
  · rw [if_neg hc, decide_eq_true_eq] at hp; exact .inr ⟨by omega, by omega⟩
theorem moveW_at {cs fs : List Int} {W : List (Pt × Pt)} {k : Nat} (hk : k < W.length) : (moveW cs fs W).getD k default = (toPt cs fs (W.getD k default).1, toPt cs fs (W.getD k default).2) := by
  unfold moveW
  rw [List.getD_eq_getElem?_getD, List.getElem?_map, List.getD_eq_getElem?_getD, List.getElem?_eq_getElem hk]; rfl
theorem moveW_len (cs fs : List Int) (W : List (Pt × Pt)) : (moveW cs fs W).length = W.length := by simp [moveW]
theorem upd_same {κ : Type} [DecidableEq κ] (f : κ → Option Value) (a : κ) (u v : Value) : upd (upd f a u) a v = upd f a v := by
  funext b; unfold upd; by_cases h : b = a <;> simp [h]
end Go.Proofs.Ytcebejcdfdahjaa
