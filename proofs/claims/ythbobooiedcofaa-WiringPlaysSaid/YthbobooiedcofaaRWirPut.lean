/-
  The document's wiring: put.
-/
import Derived.Test.YthbobooiedcofaaRWirTo
import Derived.Test.YthbobooiedcofaaRArenaOps
namespace Go.Proofs.Ythbobooiedcofaa
open Go.RowKit
attribute [local go_sem] cell_set
set_option maxRecDepth 100000
set_option linter.unusedVariables false

section
variable (B A : Nat) (S : Wir) (FA : List Nat) (w : World)
set_option maxHeartbeats 1000000 in
theorem rw_put (c s v : Int) (hv : 0 ≤ v ∧ v < 4294967296) (hp : S.wE (c, s) = 0) (h : RG w B A S FA) :
    Calls Try.prog 101 #[.pointer (some ⟨B, 0, none⟩), .agg #[.int .i64 c, .int .i64 s], .int .u32 v] w fun e w' => (∃ r, e = .returned r) ∧ RG w' B A (S.put (c, s) v) FA ∧ Kp (B :: FA) w w' := by
  have HG := Lib.hid h
  have HV := Lib.hid hv
  have hlt := h.lt
  obtain ⟨c0, V, cV, c1⟩ := h.cells
  clear hv
  by_cases hc : c = -1
  · subst hc
    have h1 : ¬ (s < 0 ∨ (S.P.length : Int) ≤ s) := by
      intro h2; unfold Wir.wE at hp; rw [if_pos rfl, if_pos h2] at hp; exact absurd hp (by decide)
    obtain ⟨i, rfl⟩ := Int.eq_ofNat_of_zero_le (by omega : 0 ≤ s)
    have hi : i < S.P.length := by omega
    obtain ⟨g, cg, k1, k0, k2, hgF, hg⟩ := h.word hi
    have h5 : (i : Int) < (S.P.length : Int) := by omega
    have h7 : (0 : Int) ≤ (i : Int) := by omega
    have hS : S.put (-1, (i : Int)) v = { S with P := S.P.set i v } := by unfold Wir.put; rw [if_pos rfl]; rfl
    rw [hS]
    have HR := Lib.hid (h.putP k1 hi HV.out)
    generalize S.P.getD i 0 = x at k0
    clear hp h1 hS c1
    go_enter Try.func101, Try.ntmps101
    go_wp2_with fail
    (refine region_tail 8 (by kernel_rfl) (by kernel_rfl) ?_; simp only [List.take_succ_cons, List.take_zero, List.drop_succ_cons, List.drop_zero]; repeat still_step; try refine wpStill_nil ?_)
    go_wp2_with fail
    refine bodyPost_ret (results_none rfl _ _ _) rfl ⟨⟨_, rfl⟩, ?_, ?_⟩
    · exact HR.out.below (by (repeat (first | exact Below.refl _ _ | (with_reducible refine Below.drew ?_) | (with_reducible refine Below.alloc ?_ (by (try simp); (try omega)) _) | (with_reducible refine Below.setCell ?_ (by (try simp); (try omega)) _) | (with_reducible refine Below.trans ?_ (Below.mono (by assumption) (by (try simp); (try omega)))))))
    · exact (((Kp.refl _ _).setCell (p := ⟨g, i, none⟩) (.inl (by simp [hgF])) _).alloc _).drew
  · have hcb : (c == -1) = false := by rw [beq_eq_false_iff_ne]; exact hc
    have hS : S.put (c, s) v = { S with A := S.A.put c s v } := by unfold Wir.put; rw [if_neg hc]
    rw [hS]
    have hse : S.A.slotE c s = 0 := by
      unfold Wir.wE at hp
      rw [if_neg hc] at hp
      by_cases he : S.A.slotE c s = 0
      · exact he
      · rw [if_neg he] at hp; exact absurd hp (by decide)
    rcases slotE_cases S.A c s with ⟨h1, _⟩ | ⟨h1, _⟩ | ⟨h1, ag, ws, hcc, hs0, hs⟩
    · omega
    · omega
    obtain ⟨h0, hl⟩ := Ars.cell_some hcc
    obtain ⟨i, rfl⟩ := Int.eq_ofNat_of_zero_le h0
    obtain ⟨k, rfl⟩ := Int.eq_ofNat_of_zero_le hs0
    have hk : k < ws.length := by omega
    obtain ⟨P, FR, hFA, hra, hput⟩ := h.split
    obtain ⟨g, cc, d, cw, k1, hli, z1, z2, hrow, hdF, hgF, hn1, hn7⟩ := hra.live hcc
    have z3 : w.cell? ⟨d, k, none⟩ = some (.int .u32 (ws.getD k 0)) := (hrow.cellAt k (by omega)).trans (by simp [wvals, hk])
    have z3f := hrow.frozenAt k
    have hdd : d < w.heap.size := hra.lt d hdF
    have hgg : g < w.heap.size := hra.lt g hgF
    have hAA := (hra.head).choose_spec.choose_spec.choose_spec.choose_spec.2.2.2.2.2.2
    have HR := Lib.hid (hput _ _ FR (hra.putw hcc hk k1 z2 HV.out) ((Kp.refl _ _).setCell (p := ⟨d, k, none⟩) (.inl hdF) _) (fun b hb => .inl hb))
    rw [← hFA] at HR
    have hdFA : d ∈ FA := by rw [hFA]; exact List.mem_append_right _ hdF
    have h5 : (i : Int) < (S.A.cells.length : Int) := by omega
    have h7 : (0 : Int) ≤ (i : Int) := by omega
    have h8 : (k : Int) < (ws.length : Int) := by omega
    have h9 : (0 : Int) ≤ (k : Int) := by omega
    clear hp hS hse h1 hcc hs0 hs h0 hl hra hput hrow hdF hgF c1 hFA
    go_enter Try.func101, Try.ntmps101
    go_wp2_with fail
    (refine region_tail 16 (by kernel_rfl) (by kernel_rfl) ?_; simp only [List.take_succ_cons, List.take_zero, List.drop_succ_cons, List.drop_zero]; repeat still_step; try refine wpStill_nil ?_)
    go_wp2_with fail
    refine bodyPost_end (results_none rfl _ _ _) rfl ⟨⟨_, rfl⟩, ?_, ?_⟩
    · exact HR.out.below (by (repeat (first | exact Below.refl _ _ | (with_reducible refine Below.drew ?_) | (with_reducible refine Below.alloc ?_ (by (try simp); (try omega)) _) | (with_reducible refine Below.setCell ?_ (by (try simp); (try omega)) _) | (with_reducible refine Below.trans ?_ (Below.mono (by assumption) (by (try simp); (try omega)))))))
    · exact (((Kp.refl _ _).setCell (p := ⟨d, k, none⟩) (.inl (by simp [hdFA])) _).alloc _).drew
end
end Go.Proofs.Ythbobooiedcofaa
