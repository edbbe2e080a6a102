/-
  Contract of skeinlaw11.whose.
-/
import Derived.Test.YtogbanlfihabpaaPaS
namespace Go.Proofs.Ytogbanlfihabpaa
open Go.RowKit
attribute [local go_sem] cell_set
attribute [local go_sem] Oper.semAt_some
set_option maxRecDepth 100000
set_option linter.unusedVariables false
section
set_option maxHeartbeats 8000000 in
theorem whose_is (V : Option Addr) (n c i0 : Nat) (p : Pt) (Q : List Pa) (qs : List PV) (w0 w : World) (hn : Q.length = n) (hQ : LenP Q) (hi : i0 < n) (h : Hid (PaS w0 w (.slice V n c) qs)) (hm : Hid (qs.map paW = Q)) (hb : Hid (∀ j, j ≤ i0 → (bel (Q.getD j default) p ↔ j = i0))) :
    Calls Try.prog 10 #[.slice V n c, .agg #[.int .i64 p.1, .int .i64 p.2]] w fun e w' => e = .returned (.int .i64 (i0 : Int)) ∧ Below w.heap.size w w' := by
  have hl1 : qs.length = n := by rw [← hn, ← hm.out, List.length_map]
  have hnl : n ≤ 100000 := by rw [← hn]; exact hQ.1
  obtain ⟨g, rfl⟩ : ∃ g, V = some ⟨g, 0, none⟩ := by
    rcases h.out.lr.2 with ⟨e, h0⟩ | ⟨gv, cap', cur, e, _⟩
    · omega
    · injection e with e1; exact ⟨gv, e1⟩
  obtain ⟨p1, p2⟩ := p
  have HQ := Lib.hid (And.intro hn (And.intro hQ hl1))
  clear hn hQ hl1
  go_enter Try.func10, Try.ntmps10
  go_upto_region 1 with fail
  refine absW (fun X => Below w.heap.size w X ∧ PtBx X w.heap.size (p1, p2)) ⟨(Below.refl _ _).alloc (Nat.le_refl _) _, heap_alloc_new w _⟩ ?_
  rintro X ⟨hbX, hpb⟩
  obtain ⟨x0, x1, xl⟩ := hpb.cells
  have HW := Lib.hid hbX
  dsimp only at x0 x1
  have HL : Hid (∀ j, j < n → ∃ Va na ca xa Vb nb cb xb, X.cell? ⟨g, j * 2, none⟩ = some (.slice Va na ca) ∧ X.cell? ⟨g, j * 2 + 1, none⟩ = some (.slice Vb nb cb) ∧ g < X.heap.size ∧ Row X 3 1 (.slice Va na ca) na (ivals xa) ∧ (xa.length = na ∧ na ≤ 100000) ∧ Row X 3 1 (.slice Vb nb cb) nb (ivals xb) ∧ (xb.length = nb ∧ nb ≤ 100000) ∧
      (¬ p1 < 0 → j ≤ i0 → (p1 ∈ xa ↔ j = i0)) ∧ (p1 < 0 → j ≤ i0 → (p2 ∈ xb ↔ j = i0))) := fun j hj => by
    have hx := h.out.below HW.out
    have lr := hx.lr
    rw [HQ.out.2.2] at lr
    have hjq : j < qs.length := by rw [HQ.out.2.2]; exact hj
    have hjQ : j < Q.length := by rw [HQ.out.1]; exact hj
    obtain ⟨ra, rb⟩ := hx.q1 _ (List.getElem_mem hjq)
    have e : paW qs[j] = Q[j] := by
      have := hm.out
      simp only [← this, List.getElem_map]
    have ll := HQ.out.2.1.2 _ (List.getElem_mem hjQ)
    have hbj := hb.out j
    have eD : Q.getD j default = Q[j] := by simp [hjQ]
    rw [eD, ← e] at hbj
    rw [← e] at ll
    have c0 : X.cell? ⟨g, j * 2, none⟩ = some qs[j].a := by rw [lr.cellAt (j * 2) (by omega), (pvCells_at hjq).1]
    have c1 : X.cell? ⟨g, j * 2 + 1, none⟩ = some qs[j].b := by rw [lr.cellAt (j * 2 + 1) (by omega), (pvCells_at hjq).2]
    generalize qs[j] = q at *
    obtain ⟨qa, qb, xs, ys⟩ := q
    dsimp only [paW] at ra rb c0 c1 ll hbj
    obtain ⟨Va, ca, rfl, _⟩ := ra.len
    obtain ⟨Vb, cb, rfl, _⟩ := rb.len
    refine ⟨Va, _, ca, xs, Vb, _, cb, ys, c0, c1, lr.lt g (by simp [ownB]), ra, ⟨rfl, ll.1⟩, rb, ⟨rfl, ll.2⟩, fun h0 hj2 => ?_, fun h0 hj2 => ?_⟩
    · have := hbj hj2
      unfold bel at this
      rw [if_neg (by exact h0)] at this
      exact this
    · have := hbj hj2
      unfold bel at this
      rw [if_pos (by exact h0)] at this
      exact this
  clear hbX hpb h hm hb
  by_cases h0 : p1 < 0
  · go_wp2
    go_loopw [5] (fun i wr => ∃ j : Nat, i = .int .i64 j ∧ j ≤ i0 ∧ wr = X) (fun i _ => n - (intOf i).toNat)
    case atStart => exact ⟨0, rfl, by omega, rfl⟩
    case round =>
      obtain ⟨j, rfl, hj, rfl⟩ := hrel
      have hjn : j < n := by omega
      have hjn2 : (j : Int) < (n : Int) := by omega
      obtain ⟨Va, na, ca, xa, Vb, nb, cb, xb, y0, y1, yl, ra, la, rb, lb, hsa, hsb⟩ := HL.out j hjn
      have HZ : Hid (Row wr 3 1 (.slice Vb nb cb) nb (ivals xb) ∧ xb.length = nb ∧ (p2 ∈ xb → j = i0) ∧ (j = i0 → p2 ∈ xb)) := ⟨rb, lb.1, (hsb h0 hj).1, (hsb h0 hj).2⟩
      have hnb := lb.2
      clear ra la rb lb hsa hsb HL
      obtain ⟨nl, hnl2⟩ : ∃ nl, nl = nb := ⟨_, rfl⟩
      obtain ⟨zs, hzs⟩ : ∃ zs, zs = xb := ⟨_, rfl⟩
      obtain ⟨mm, hmm⟩ : ∃ mm, mm = p2 := ⟨_, rfl⟩
      obtain ⟨V', hV⟩ : ∃ V', V' = Vb := ⟨_, rfl⟩
      obtain ⟨X, hX⟩ : ∃ X, X = wr := ⟨_, rfl⟩
      subst hnl2 hzs hmm hV hX
      go_wp2
      go_loopw [8] (fun kk wr => ∃ k : Nat, kk = .int .i64 k ∧ k ≤ nl ∧ Hid (∀ x ∈ zs.take k, x ≠ mm) ∧ wr = X) (fun kk _ => nl - (intOf kk).toNat)
      case atStart => exact ⟨0, rfl, by omega, fun x hx => by simp at hx, rfl⟩
      case round =>
        obtain ⟨k, rfl, hk, HJ, rfl⟩ := hrel
        by_cases hkl : k < nl
        · have hjl : k < zs.length := by rw [HZ.out.2.1]; exact hkl
          obtain ⟨gz, rfl⟩ : ∃ g, V' = some ⟨g, 0, none⟩ := by
            rcases HZ.out.1.2 with ⟨e, h0⟩ | ⟨g, cap', cur, e, _⟩
            · omega
            · injection e with e1; exact ⟨g, e1⟩
          have c0 : wr.cell? ⟨gz, k, none⟩ = some (.int .i64 (zs[k]'hjl)) := by
            rw [HZ.out.1.cellAt k (by omega)]
            simp [ivals, hjl]
          have hjn : (k : Int) < (nl : Int) := by omega
          have HX : Hid (zs.take (k + 1) = zs.take k ++ [zs[k]'hjl]) := by
            show _ = _
            rw [List.take_add_one, List.getElem?_eq_getElem hjl]; rfl
          have HM : Hid ((zs[k]'hjl) ∈ zs) := List.getElem_mem hjl
          generalize zs[k]'hjl = x at c0 HX HM
          clear hjl
          by_cases hx : x = mm
          · subst hx
            have HE := Lib.hid (HZ.out.2.2.1 HM.out)
            go_wp2
            go_ret
            exact ⟨by rw [HE.out]; rfl, HW.out⟩
          · have hx1 : (x == mm) = false := by simp [hx]
            have hx2 : decide (x = mm) = false := by simp [hx]
            have HNx := Lib.hid hx
            clear hx
            go_wp2
            go_roundw
            case rel => exact ⟨k + 1, by go_num, by omega, (fun y hy => by
              rw [HX.out] at hy
              rcases List.mem_append.1 hy with hy | hy
              · exact HJ.out y hy
              · simp at hy; subst hy; exact HNx.out), by trivial⟩
            case measure => simp [intOf]; omega
        · obtain rfl : k = nl := by omega
          have HNE : Hid (j ≠ i0) := fun e => by
            have hm := HZ.out.2.2.2 e
            have e2 : zs.take k = zs := by rw [← HZ.out.2.1, List.take_length]
            exact HJ.out mm (by rw [e2]; exact hm) rfl
          clear hkl
          go_wp2
          go_roundw
          case rel => exact ⟨j + 1, by go_num, by have := HNE.out; omega, by trivial⟩
          case measure => simp [intOf]; omega
  · have h0' : decide (p1 < 0) = false := decide_eq_false h0
    go_wp2
    go_loopw [5] (fun i wr => ∃ j : Nat, i = .int .i64 j ∧ j ≤ i0 ∧ wr = X) (fun i _ => n - (intOf i).toNat)
    case atStart => exact ⟨0, rfl, by omega, rfl⟩
    case round =>
      obtain ⟨j, rfl, hj, rfl⟩ := hrel
      have hjn : j < n := by omega
      have hjn2 : (j : Int) < (n : Int) := by omega
      obtain ⟨Va, na, ca, xa, Vb, nb, cb, xb, y0, y1, yl, ra, la, rb, lb, hsa, hsb⟩ := HL.out j hjn
      have HZ : Hid (Row wr 3 1 (.slice Va na ca) na (ivals xa) ∧ xa.length = na ∧ (p1 ∈ xa → j = i0) ∧ (j = i0 → p1 ∈ xa)) := ⟨ra, la.1, (hsa h0 hj).1, (hsa h0 hj).2⟩
      have hna := la.2
      clear ra la rb lb hsa hsb HL
      obtain ⟨nl, hnl2⟩ : ∃ nl, nl = na := ⟨_, rfl⟩
      obtain ⟨zs, hzs⟩ : ∃ zs, zs = xa := ⟨_, rfl⟩
      obtain ⟨mm, hmm⟩ : ∃ mm, mm = p1 := ⟨_, rfl⟩
      obtain ⟨V', hV⟩ : ∃ V', V' = Va := ⟨_, rfl⟩
      obtain ⟨X, hX⟩ : ∃ X, X = wr := ⟨_, rfl⟩
      subst hnl2 hzs hmm hV hX
      go_wp2
      go_loopw [8] (fun kk wr => ∃ k : Nat, kk = .int .i64 k ∧ k ≤ nl ∧ Hid (∀ x ∈ zs.take k, x ≠ mm) ∧ wr = X) (fun kk _ => nl - (intOf kk).toNat)
      case atStart => exact ⟨0, rfl, by omega, fun x hx => by simp at hx, rfl⟩
      case round =>
        obtain ⟨k, rfl, hk, HJ, rfl⟩ := hrel
        by_cases hkl : k < nl
        · have hjl : k < zs.length := by rw [HZ.out.2.1]; exact hkl
          obtain ⟨gz, rfl⟩ : ∃ g, V' = some ⟨g, 0, none⟩ := by
            rcases HZ.out.1.2 with ⟨e, h0⟩ | ⟨g, cap', cur, e, _⟩
            · omega
            · injection e with e1; exact ⟨g, e1⟩
          have c0 : wr.cell? ⟨gz, k, none⟩ = some (.int .i64 (zs[k]'hjl)) := by
            rw [HZ.out.1.cellAt k (by omega)]
            simp [ivals, hjl]
          have hjn : (k : Int) < (nl : Int) := by omega
          have HX : Hid (zs.take (k + 1) = zs.take k ++ [zs[k]'hjl]) := by
            show _ = _
            rw [List.take_add_one, List.getElem?_eq_getElem hjl]; rfl
          have HM : Hid ((zs[k]'hjl) ∈ zs) := List.getElem_mem hjl
          generalize zs[k]'hjl = x at c0 HX HM
          clear hjl
          by_cases hx : x = mm
          · subst hx
            have HE := Lib.hid (HZ.out.2.2.1 HM.out)
            go_wp2
            go_ret
            exact ⟨by rw [HE.out]; rfl, HW.out⟩
          · have hx1 : (x == mm) = false := by simp [hx]
            have hx2 : decide (x = mm) = false := by simp [hx]
            have HNx := Lib.hid hx
            clear hx
            go_wp2
            go_roundw
            case rel => exact ⟨k + 1, by go_num, by omega, (fun y hy => by
              rw [HX.out] at hy
              rcases List.mem_append.1 hy with hy | hy
              · exact HJ.out y hy
              · simp at hy; subst hy; exact HNx.out), by trivial⟩
            case measure => simp [intOf]; omega
        · obtain rfl : k = nl := by omega
          have HNE : Hid (j ≠ i0) := fun e => by
            have hm := HZ.out.2.2.2 e
            have e2 : zs.take k = zs := by rw [← HZ.out.2.1, List.take_length]
            exact HJ.out mm (by rw [e2]; exact hm) rfl
          clear hkl
          go_wp2
          go_roundw
          case rel => exact ⟨j + 1, by go_num, by have := HNE.out; omega, by trivial⟩
          case measure => simp [intOf]; omega
end
end Go.Proofs.Ytogbanlfihabpaa
