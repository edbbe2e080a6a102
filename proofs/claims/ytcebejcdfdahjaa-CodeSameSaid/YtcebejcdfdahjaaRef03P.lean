/-
  Contracts of skeinref03: Place.
-/
import Derived.Test.YtcebejcdfdahjaaRef03
namespace Go.Proofs.Ytcebejcdfdahjaa
open Go.RowKit
attribute [local go_sem] cell_set
set_option maxRecDepth 100000
set_option linter.unusedVariables false

theorem rplace_free (A : Option Addr) (n cap : Nat) (L : List (ByteArray × Int)) (VA VB VF : Option Addr) (ca cb cf nf : Nat) (cells : List Int) (free : Nat) (W : List (Pt × Pt)) (c s : Int) (w : World) (hn : n = L.length) (HL : Hid (AgRd w A L)) (hs : SigOk L) (HC : Hid (IntsRd w VA cells)) (hc : cells.length ≤ 5000) (hf : free ≤ 100)
    (hnf : nf = cells.length) (HF : Hid (IntsRd w VF (firstL (pnL L) cells free cells.length))) (hc1 : c = -1) :
    Calls Try.prog 67 #[.slice A n cap, netV VA ca cells free VB cb W, .slice VF nf cf, .agg #[.int .i64 c, .int .i64 s]] w fun e w' => e = .returned (.int .i64 (plcR (pnL L) cells free (c, s))) ∧ Below w.heap.size w w' := by
  have hll := hs.len
  subst hn hnf hc1
  rcases (by omega : s < 0 ∨ (0 ≤ s ∧ (free : Int) ≤ s) ∨ (0 ≤ s ∧ s < free)) with h | ⟨h, h'⟩ | ⟨h, h'⟩
  all_goals
    have HP : Hid (plcR (pnL L) cells free (-1, s) = if 0 ≤ s ∧ s < free then s else -1) := by
      show _ = _
      unfold plcR isPt plc
      by_cases hh : 0 ≤ s ∧ s < free
      · simp [hh]; omega
      · simp [hh]
    go_enter Try.func67, Try.ntmps67
    go_wp2
    go_ret
    exact ⟨retI (by rw [HP.out]; first | rw [if_pos (by omega)] | rw [if_neg (by omega)]), by (repeat (first | exact Below.refl _ _ | (with_reducible refine Below.drew ?_) | (with_reducible refine Below.alloc ?_ (by (try simp); (try omega)) _) | (with_reducible refine Below.setCell ?_ (by (try simp); (try omega)) _) | (with_reducible refine Below.trans ?_ (Below.mono (by assumption) (by (try simp); (try omega))))))⟩
set_option maxHeartbeats 400000 in
theorem rplace_neg (A : Option Addr) (n cap : Nat) (L : List (ByteArray × Int)) (VA VB VF : Option Addr) (ca cb cf nf : Nat) (cells : List Int) (free : Nat) (W : List (Pt × Pt)) (c s : Int) (w : World) (hn : n = L.length) (HL : Hid (AgRd w A L)) (hs : SigOk L) (HC : Hid (IntsRd w VA cells)) (hc : cells.length ≤ 5000) (hf : free ≤ 100)
    (hnf : nf = cells.length) (HF : Hid (IntsRd w VF (firstL (pnL L) cells free cells.length))) (hc1 : c ≠ -1) (h : c < 0) :
    Calls Try.prog 67 #[.slice A n cap, netV VA ca cells free VB cb W, .slice VF nf cf, .agg #[.int .i64 c, .int .i64 s]] w fun e w' => e = .returned (.int .i64 (plcR (pnL L) cells free (c, s))) ∧ Below w.heap.size w w' := by
  have hll := hs.len
  subst hn hnf
  have hcb : (c == -1) = false := by rw [beq_eq_false_iff_ne]; exact hc1
  have HP : Hid (plcR (pnL L) cells free (c, s) = -1) := by
    show _ = _
    unfold plcR isPt
    rw [if_neg hc1, if_neg (by simp only [decide_eq_true_eq]; omega)]
  clear HL HC HF hs hc hf
  have d1 : decide (c < 0) = true := by simpa using h
  go_enter Try.func67, Try.ntmps67
  go_wp2_with fail
  refine absW (fun X => Below w.heap.size w X ∧ X.cell? ⟨w.heap.size, 0, none⟩ = some (.slice VA cells.length ca) ∧ X.cell? ⟨w.heap.size + 1, 0, none⟩ = some (.int .i64 c) ∧ X.cell? ⟨w.heap.size + 1, 1, none⟩ = some (.int .i64 s)) ⟨((Below.refl _ _).alloc (Nat.le_refl _) _).alloc (by simp) _, by go_simp, by go_simp, by go_simp⟩ ?_
  rintro X ⟨hbX, x0, x1, x2⟩
  have HX := Lib.hid hbX
  clear hbX
  go_quiet (fail)
  go_wp2
  go_ret
  exact ⟨retI HP.out.symm, below_drewN HX.out _⟩
set_option maxHeartbeats 400000 in
theorem rplace_big (A : Option Addr) (n cap : Nat) (L : List (ByteArray × Int)) (VA VB VF : Option Addr) (ca cb cf nf : Nat) (cells : List Int) (free : Nat) (W : List (Pt × Pt)) (c s : Int) (w : World) (hn : n = L.length) (HL : Hid (AgRd w A L)) (hs : SigOk L) (HC : Hid (IntsRd w VA cells)) (hc : cells.length ≤ 5000) (hf : free ≤ 100)
    (hnf : nf = cells.length) (HF : Hid (IntsRd w VF (firstL (pnL L) cells free cells.length))) (hc1 : c ≠ -1) (h : 0 ≤ c ∧ (cells.length : Int) ≤ c) :
    Calls Try.prog 67 #[.slice A n cap, netV VA ca cells free VB cb W, .slice VF nf cf, .agg #[.int .i64 c, .int .i64 s]] w fun e w' => e = .returned (.int .i64 (plcR (pnL L) cells free (c, s))) ∧ Below w.heap.size w w' := by
  have hll := hs.len
  subst hn hnf
  have hcb : (c == -1) = false := by rw [beq_eq_false_iff_ne]; exact hc1
  have HP : Hid (plcR (pnL L) cells free (c, s) = -1) := by
    show _ = _
    unfold plcR isPt
    rw [if_neg hc1, if_neg (by simp only [decide_eq_true_eq]; omega)]
  obtain ⟨h, h'⟩ := h
  clear HL HC HF hs hc hf
  have d1 : decide (c < 0) = false := by simpa using h
  have d2 : decide ((cells.length : Int) ≤ c) = true := by simpa using h'
  go_enter Try.func67, Try.ntmps67
  go_wp2_with fail
  refine absW (fun X => Below w.heap.size w X ∧ X.cell? ⟨w.heap.size, 0, none⟩ = some (.slice VA cells.length ca) ∧ X.cell? ⟨w.heap.size + 1, 0, none⟩ = some (.int .i64 c) ∧ X.cell? ⟨w.heap.size + 1, 1, none⟩ = some (.int .i64 s)) ⟨((Below.refl _ _).alloc (Nat.le_refl _) _).alloc (by simp) _, by go_simp, by go_simp, by go_simp⟩ ?_
  rintro X ⟨hbX, x0, x1, x2⟩
  have HX := Lib.hid hbX
  clear hbX
  go_quiet (fail)
  go_wp2
  go_ret
  exact ⟨retI HP.out.symm, below_drewN HX.out _⟩
set_option maxHeartbeats 400000 in
theorem rplace_slot (A : Option Addr) (n cap : Nat) (L : List (ByteArray × Int)) (VA VB VF : Option Addr) (ca cb cf nf : Nat) (cells : List Int) (free : Nat) (W : List (Pt × Pt)) (c s : Int) (w : World) (hn : n = L.length) (HL : Hid (AgRd w A L)) (hs : SigOk L) (HC : Hid (IntsRd w VA cells)) (hc : cells.length ≤ 5000) (hf : free ≤ 100)
    (hnf : nf = cells.length) (HF : Hid (IntsRd w VF (firstL (pnL L) cells free cells.length))) (hc1 : c ≠ -1) (h : 0 ≤ c ∧ c < cells.length ∧ s < 0) :
    Calls Try.prog 67 #[.slice A n cap, netV VA ca cells free VB cb W, .slice VF nf cf, .agg #[.int .i64 c, .int .i64 s]] w fun e w' => e = .returned (.int .i64 (plcR (pnL L) cells free (c, s))) ∧ Below w.heap.size w w' := by
  have hll := hs.len
  subst hn hnf
  have hcb : (c == -1) = false := by rw [beq_eq_false_iff_ne]; exact hc1
  have HP : Hid (plcR (pnL L) cells free (c, s) = -1) := by
    show _ = _
    unfold plcR isPt
    rw [if_neg hc1, if_neg (by simp only [decide_eq_true_eq]; omega)]
  obtain ⟨h, h', h''⟩ := h
  clear HL HC HF hs hc hf
  have d1 : decide (c < 0) = false := by simpa using h
  have d2 : decide ((cells.length : Int) ≤ c) = false := by simpa using h'
  have d3 : decide (s < 0) = true := by simpa using h''
  go_enter Try.func67, Try.ntmps67
  go_wp2_with fail
  refine absW (fun X => Below w.heap.size w X ∧ X.cell? ⟨w.heap.size, 0, none⟩ = some (.slice VA cells.length ca) ∧ X.cell? ⟨w.heap.size + 1, 0, none⟩ = some (.int .i64 c) ∧ X.cell? ⟨w.heap.size + 1, 1, none⟩ = some (.int .i64 s)) ⟨((Below.refl _ _).alloc (Nat.le_refl _) _).alloc (by simp) _, by go_simp, by go_simp, by go_simp⟩ ?_
  rintro X ⟨hbX, x0, x1, x2⟩
  have HX := Lib.hid hbX
  clear hbX
  go_quiet (fail)
  go_wp2
  go_ret
  exact ⟨retI HP.out.symm, below_drewN HX.out _⟩
set_option maxHeartbeats 800000 in
theorem rplace_ok (A : Option Addr) (n cap : Nat) (L : List (ByteArray × Int)) (VA VB VF : Option Addr) (ca cb cf nf : Nat) (cells : List Int) (free : Nat) (W : List (Pt × Pt)) (c s : Int) (w : World) (hn : n = L.length) (HL : Hid (AgRd w A L)) (hs : SigOk L) (HC : Hid (IntsRd w VA cells)) (hc : cells.length ≤ 5000) (hf : free ≤ 100)
    (hnf : nf = cells.length) (HF : Hid (IntsRd w VF (firstL (pnL L) cells free cells.length))) (hc1 : c ≠ -1) (h : 0 ≤ c ∧ c < cells.length ∧ 0 ≤ s) :
    Calls Try.prog 67 #[.slice A n cap, netV VA ca cells free VB cb W, .slice VF nf cf, .agg #[.int .i64 c, .int .i64 s]] w fun e w' => e = .returned (.int .i64 (plcR (pnL L) cells free (c, s))) ∧ Below w.heap.size w w' := by
  have hll := hs.len
  subst hn hnf
  have hcb : (c == -1) = false := by rw [beq_eq_false_iff_ne]; exact hc1
  obtain ⟨h, h', h''⟩ := h
  obtain ⟨k, rfl⟩ := Int.eq_ofNat_of_zero_le h
  have hk : k < cells.length := by omega
  obtain ⟨b, off, rfl, hb, e0⟩ := HC.out k hk
  obtain ⟨b2, off2, rfl, hb2, e2⟩ := HF.out k (by rw [firstL_len]; exact hk)
  have hfk : (firstL (pnL L) cells free cells.length).getD k 0 = (firstN (pnL L) cells free k : Int) := by simp [firstL, hk]
  rw [hfk] at e2
  have hle := firstN_le (pnL_le hs) cells free k
  have HP : Hid (plcR (pnL L) cells free ((k : Int), s) = if (pnL L (cells.getD k 0) : Int) ≤ s then -1 else (firstN (pnL L) cells free k : Int) + s) := by
    show _ = _
    unfold plcR isPt plc
    rw [if_neg hc1, if_neg hc1]
    simp only [Int.toNat_natCast, decide_eq_true_eq]
    by_cases hh : (pnL L (cells.getD k 0) : Int) ≤ s
    · rw [if_pos hh, if_neg (by omega)]
    · rw [if_neg hh, if_pos (by omega)]; omega
  have hp := Lib.hid (hs.ports (cells.getD k 0))
  have HPE := Lib.hid (pnL_eq hs (cells.getD k 0))
  have hp7 := pnL_le hs (cells.getD k 0)
  generalize cells.getD k 0 = x at e0 HP hp HPE hp7
  have d1 : decide ((k : Int) < 0) = false := by simp
  have d2 : decide ((cells.length : Int) ≤ (k : Int)) = false := by simpa using hk
  have d3 : decide (s < 0) = false := by simpa using h''
  clear HC HF hs
  by_cases hbig : (pnL L x : Int) ≤ s
  all_goals
    go_enter Try.func67, Try.ntmps67
    go_wp2_with fail
    refine absW (fun X => Below w.heap.size w X ∧ X.cell? ⟨w.heap.size, 0, none⟩ = some (.slice (some ⟨b, off, none⟩) cells.length ca) ∧ X.cell? ⟨w.heap.size + 1, 0, none⟩ = some (.int .i64 (k : Int)) ∧ X.cell? ⟨w.heap.size + 1, 1, none⟩ = some (.int .i64 s)) ⟨((Below.refl _ _).alloc (Nat.le_refl _) _).alloc (by simp) _, by go_simp, by go_simp, by go_simp⟩ ?_
    rintro X ⟨hbX, x0, x1, x2⟩
    have HX := Lib.hid hbX
    have y0 : X.cell? ⟨b, off + k, none⟩ = some (.int .i64 x) := (hbX.cell (p := ⟨b, off + k, none⟩) hb).trans e0
    have y2 : X.cell? ⟨b2, off2 + k, none⟩ = some (.int .i64 (firstN (pnL L) cells free k : Int)) := (hbX.cell (p := ⟨b2, off2 + k, none⟩) hb2).trans e2
    have HQ : Hid (∀ n, AgRd (X.drewN n) A L) := fun n => HL.out.below (below_drewN hbX n)
    clear hbX e0 e2
    go_quiet (exact Calls.quiet_of_same ((rports_any _ _ _ L _ _ rfl (by simp only [maxLen]; omega) (HQ.out _) hp.out.2.2).mono fun e w' h => ⟨by rw [h.1, HPE.out], h.2.symm⟩))
    go_wp2_with fail
  · go_ret
    exact ⟨retI (by rw [HP.out, if_pos hbig]), below_drewN HX.out _⟩
  · go_quiet (fail)
    go_wp2
    go_ret
    exact ⟨retI (by rw [HP.out, if_neg (by omega)]), below_drewN (below_drewN HX.out _) _⟩
theorem rplace (A : Option Addr) (n cap : Nat) (L : List (ByteArray × Int)) (VA VB VF : Option Addr) (ca cb cf nf : Nat) (cells : List Int) (free : Nat) (W : List (Pt × Pt)) (c s : Int) (w : World) (hn : n = L.length) (HL : Hid (AgRd w A L)) (hs : SigOk L) (HC : Hid (IntsRd w VA cells)) (hc : cells.length ≤ 5000) (hf : free ≤ 100)
    (hnf : nf = cells.length) (HF : Hid (IntsRd w VF (firstL (pnL L) cells free cells.length))) :
    Calls Try.prog 67 #[.slice A n cap, netV VA ca cells free VB cb W, .slice VF nf cf, .agg #[.int .i64 c, .int .i64 s]] w fun e w' => e = .returned (.int .i64 (plcR (pnL L) cells free (c, s))) ∧ Below w.heap.size w w' := by
  by_cases hc1 : c = -1
  · exact rplace_free A n cap L VA VB VF ca cb cf nf cells free W c s w hn HL hs HC hc hf hnf HF hc1
  · rcases (by omega : c < 0 ∨ (0 ≤ c ∧ (cells.length : Int) ≤ c) ∨ (0 ≤ c ∧ c < cells.length ∧ s < 0) ∨ (0 ≤ c ∧ c < cells.length ∧ 0 ≤ s)) with h | h | h | h
    · exact rplace_neg A n cap L VA VB VF ca cb cf nf cells free W c s w hn HL hs HC hc hf hnf HF hc1 h
    · exact rplace_big A n cap L VA VB VF ca cb cf nf cells free W c s w hn HL hs HC hc hf hnf HF hc1 h
    · exact rplace_slot A n cap L VA VB VF ca cb cf nf cells free W c s w hn HL hs HC hc hf hnf HF hc1 h
    · exact rplace_ok A n cap L VA VB VF ca cb cf nf cells free W c s w hn HL hs HC hc hf hnf HF hc1 h
end Go.Proofs.Ytcebejcdfdahjaa
