/-
  Contracts of skeinref03: Place.
-/
import Derived.Test.YtogbanlfihabpaaRef02
/-
  Contracts of skeinref03: First, Place, All.
-/
namespace Go.Proofs.Ytogbanlfihabpaa
open Go.RowKit
attribute [local go_sem] cell_set
set_option maxRecDepth 100000

def firstL (pn : Int → Nat) (cells : List Int) (free k : Nat) : List Int := (List.range k).map fun i => (firstN pn cells free i : Int)
theorem firstL_len (pn : Int → Nat) (cells : List Int) (free k : Nat) : (firstL pn cells free k).length = k := by simp [firstL]
theorem firstL_succ (pn : Int → Nat) (cells : List Int) (free k : Nat) : firstL pn cells free (k + 1) = firstL pn cells free k ++ [(firstN pn cells free k : Int)] := by simp [firstL, List.range_succ]
theorem firstN_succ {pn : Int → Nat} {cells : List Int} {free k : Nat} (hk : k < cells.length) : firstN pn cells free (k + 1) = firstN pn cells free k + pn (cells.getD k 0) := by
  have e : (cells.take (k + 1)).map pn = (cells.take k).map pn ++ [pn (cells.getD k 0)] := by
    rw [List.take_add_one, List.getElem?_eq_getElem hk, List.map_append]
    simp only [Option.toList_some, List.map_cons, List.map_nil, List.getD_eq_getElem?_getD, List.getElem?_eq_getElem hk, Option.getD_some]
  unfold firstN
  rw [e, List.sum_append, List.sum_cons, List.sum_nil]; omega
theorem firstN_le {pn : Int → Nat} (h7 : ∀ a, pn a ≤ 7) (cells : List Int) (free k : Nat) : firstN pn cells free k ≤ free + 7 * k := by
  unfold firstN
  have : ∀ l : List Int, ((l.map pn).sum) ≤ 7 * l.length := by
    intro l
    induction l with
    | nil => simp
    | cons a r ih => have := h7 a; simp only [List.map_cons, List.sum_cons, List.length_cons]; omega
  have h1 := this (cells.take k)
  have h2 : (cells.take k).length ≤ k := by simp; omega
  omega
theorem pnL_le {L : List (ByteArray × Int)} (h : SigOk L) (a : Int) : pnL L a ≤ 7 := by have := h.ports a; unfold pnL; omega
theorem pnL_eq {L : List (ByteArray × Int)} (h : SigOk L) (a : Int) : portsN L a = (pnL L a : Int) := by have := h.ports a; unfold pnL; omega
theorem ivals_snoc (l : List Int) (x : Int) : ivals (l ++ [x]) = ivals l ++ [.int .i64 x] := by simp [ivals]

set_option maxHeartbeats 1000000 in
theorem rfirst (A : Option Addr) (n cap : Nat) (L : List (ByteArray × Int)) (VA VB : Option Addr) (ca cb : Nat) (cells : List Int) (free : Nat) (W : List (Pt × Pt)) (w : World) (hn : n = L.length) (HL : Hid (AgRd w A L)) (hs : SigOk L) (HC : Hid (IntsRd w VA cells)) (hc : cells.length ≤ 5000) (hf : free ≤ 100) :
    Calls Try.prog 14 #[.slice A n cap, netV VA ca cells free VB cb W] w fun e w' => ∃ V c, e = .returned (.tuple #[.slice V cells.length c, .int .i64 (firstN (pnL L) cells free cells.length)]) ∧ Fresh w w' 3 1 cells.length (.slice V cells.length c) (ivals (firstL (pnL L) cells free cells.length)) := by
  have hll := hs.len
  subst hn
  obtain ⟨i0, hi0, hi1, hi2, hi3⟩ := info_parts int_info
  go_enter Try.func14, Try.ntmps14
  go_wp2_with fail
  refine absW (fun X => Below w.heap.size w X ∧ NBox X w.heap.size VA cells.length ca free VB W.length cb) ⟨(Below.refl _ _).alloc (Nat.le_refl _) _, by simp, by go_simp, by go_simp, by go_simp⟩ ?_
  rintro X ⟨hbX, nb⟩
  have HX := Lib.hid (And.intro hbX nb)
  clear hbX nb
  go_loopw [6, 7, 8] (fun l at_ i wr => ∃ k : Nat, ∃ V c, i = .int .i64 k ∧ k ≤ cells.length ∧ l = .slice V k c ∧ at_ = .int .i64 (firstN (pnL L) cells free k) ∧ Hid (Fresh X wr 3 1 k (.slice V k c) (ivals (firstL (pnL L) cells free k)))) (fun _ _ i _ => cells.length - (intOf i).toNat)
  case atStart => exact ⟨0, none, 0, rfl, by omega, rfl, by simp [firstN], Lib.hid (Fresh.nil _ _ _)⟩
  case round =>
    obtain ⟨k, V, c, rfl, hk, rfl, rfl, HF⟩ := hrel
    have nbr := HX.out.2.below HF.out.2.2
    have n0 := nbr.c0
    have hle := firstN_le (pnL_le hs) cells free k
    by_cases hlt : k < cells.length
    · obtain ⟨b, off, rfl, hb, e0⟩ := HC.out k hlt
      have hnx := firstN_succ (pn := pnL L) (free := free) hlt
      generalize cells.getD k 0 = x at e0 hnx
      have HNX := Lib.hid hnx
      clear hnx
      have hwr : Below w.heap.size w wr := HX.out.1.trans (HF.out.2.2.mono HX.out.1.size)
      have HRow : Hid (Row (wr.alloc (.cells #[.int .i64 (firstN (pnL L) cells free k : Int)] 3)) 3 1 (.slice V k c) k (ivals (firstL (pnL L) cells free k))) := HF.out.1.alloc _
      have HSrc : Hid (Src (wr.alloc (.cells #[.int .i64 (firstN (pnL L) cells free k : Int)] 3)) (some ⟨wr.heap.size, 0, none⟩) 1 1 [.int .i64 (firstN (pnL L) cells free k : Int)]) :=
        Src.block (cs := #[.int .i64 (firstN (pnL L) cells free k : Int)]) (t := 3) (fr := (0, 0)) (heap_alloc_new wr _) rfl (by simp [Value.oneCell'])
      have HB63 : k + 1 ≤ maxLen := by simp only [maxLen]; omega
      have HB47 : (k + 1) * 8 ≤ 140737488355328 := by omega
      have hp := Lib.hid (hs.ports x)
      have HPE := Lib.hid (pnL_eq hs x)
      have hp7 := pnL_le hs x
      go_wp2_with (first
        | (at_builtin; go_loud (refine inPlain rfl (wpo_row_append _ _ _ rfl i0 _ 8 Try.underlying23 hi0 hi1 hi2 hi3 rfl rfl HRow.out _ 1 1 rfl [.int .i64 (firstN (pnL L) cells free k : Int)] HSrc.out HB63 HB47 ?_)); intro sv5 w5 r5 k5 o5; obtain ⟨V5, cp5, rfl, hc5⟩ := r5.len
           have F5 : Hid (Fresh X w5 3 1 (k + 1) (.slice V5 (k + 1) cp5) (ivals (firstL (pnL L) cells free (k + 1)))) := by rw [firstL_succ, ivals_snoc]; exact HF.out.app k5 o5 r5
           have n05 := (HX.out.2.below F5.out.2.2).c0
           have hw5 : Below w.heap.size w w5 := HX.out.1.trans (F5.out.2.2.mono HX.out.1.size)
           have e5 : w5.cell? ⟨b, off + k, none⟩ = some (.int .i64 x) := (hw5.cell (p := ⟨b, off + k, none⟩) hb).trans e0
           have HL5 := Lib.hid (HL.out.below hw5))
        | (go_at_call 27; refine (rports_any _ _ _ L _ _ rfl (by simp only [maxLen]; omega) HL5 hp.out.2.2).mono ?_; rintro e w6 ⟨rfl, rfl⟩; rw [HPE.out]))
      go_roundw
      case rel => exact ⟨k + 1, V5, cp5, by go_num, by omega, rfl, by rw [HNX.out]; first | (simp; done) | (unfold wrap64; congr 1; omega), F5⟩
      case measure => simp [intOf]; omega
    · obtain rfl : k = cells.length := by omega
      go_wp2
      refine bodyPost_ret (v := .tuple #[.slice V cells.length c, .int .i64 (firstN (pnL L) cells free cells.length)]) (by simp only [results, Try.results14]; go_simp) rfl ?_
      exact ⟨V, c, rfl, HF.out.from HX.out.1⟩

/-- The place of a port; -1: it is none. -/
def plcR (pn : Int → Nat) (cells : List Int) (free : Nat) (p : Pt) : Int := if isPt pn cells free p then plc pn cells free p else -1
end Go.Proofs.Ytogbanlfihabpaa
namespace Go.Proofs.Ytogbanlfihabpaa
open Go.RowKit
attribute [local go_sem] cell_set
set_option maxRecDepth 100000
set_option linter.unusedVariables false

theorem rplace_free (A : Option Addr) (n cap : Nat) (L : List (ByteArray × Int)) (VA VB VF : Option Addr) (ca cb cf nf : Nat) (cells : List Int) (free : Nat) (W : List (Pt × Pt)) (c s : Int) (w : World) (hn : n = L.length) (HL : Hid (AgRd w A L)) (hs : SigOk L) (HC : Hid (IntsRd w VA cells)) (hc : cells.length ≤ 5000) (hf : free ≤ 100)
    (hnf : nf = cells.length) (HF : Hid (IntsRd w VF (firstL (pnL L) cells free cells.length))) (hc1 : c = -1) :
    Calls Try.prog 15 #[.slice A n cap, netV VA ca cells free VB cb W, .slice VF nf cf, .agg #[.int .i64 c, .int .i64 s]] w fun e w' => e = .returned (.int .i64 (plcR (pnL L) cells free (c, s))) ∧ Below w.heap.size w w' := by
  have hll := hs.len
  subst hn hnf hc1
  rcases (by omega : s < 0 ∨ (0 ≤ s ∧ (free : Int) ≤ s) ∨ (0 ≤ s ∧ s < free)) with h | ⟨h, h'⟩ | ⟨h, h'⟩
  all_goals
    have HP : Hid (plcR (pnL L) cells free (-1, s) = if 0 ≤ s ∧ s < free then s else -1) := by
      show _ = _
      unfold plcR isPt plc
      by_cases hh : 0 ≤ s ∧ s < free
      · simp [hh]; omega
      · simp [hh]
    go_enter Try.func15, Try.ntmps15
    go_wp2
    go_ret
    exact ⟨retI (by rw [HP.out]; first | rw [if_pos (by omega)] | rw [if_neg (by omega)]), by (repeat (first | exact Below.refl _ _ | (with_reducible refine Below.drew ?_) | (with_reducible refine Below.alloc ?_ (by (try simp); (try omega)) _) | (with_reducible refine Below.setCell ?_ (by (try simp); (try omega)) _) | (with_reducible refine Below.trans ?_ (Below.mono (by assumption) (by (try simp); (try omega))))))⟩
set_option maxHeartbeats 400000 in
theorem rplace_neg (A : Option Addr) (n cap : Nat) (L : List (ByteArray × Int)) (VA VB VF : Option Addr) (ca cb cf nf : Nat) (cells : List Int) (free : Nat) (W : List (Pt × Pt)) (c s : Int) (w : World) (hn : n = L.length) (HL : Hid (AgRd w A L)) (hs : SigOk L) (HC : Hid (IntsRd w VA cells)) (hc : cells.length ≤ 5000) (hf : free ≤ 100)
    (hnf : nf = cells.length) (HF : Hid (IntsRd w VF (firstL (pnL L) cells free cells.length))) (hc1 : c ≠ -1) (h : c < 0) :
    Calls Try.prog 15 #[.slice A n cap, netV VA ca cells free VB cb W, .slice VF nf cf, .agg #[.int .i64 c, .int .i64 s]] w fun e w' => e = .returned (.int .i64 (plcR (pnL L) cells free (c, s))) ∧ Below w.heap.size w w' := by
  have hll := hs.len
  subst hn hnf
  have hcb : (c == -1) = false := by rw [beq_eq_false_iff_ne]; exact hc1
  have HP : Hid (plcR (pnL L) cells free (c, s) = -1) := by
    show _ = _
    unfold plcR isPt
    rw [if_neg hc1, if_neg (by simp only [decide_eq_true_eq]; omega)]
  clear HL HC HF hs hc hf
  have d1 : decide (c < 0) = true := by simpa using h
  go_enter Try.func15, Try.ntmps15
  go_wp2_with fail
  refine absW (fun X => Below w.heap.size w X ∧ X.cell? ⟨w.heap.size, 0, none⟩ = some (.slice VA cells.length ca) ∧ X.cell? ⟨w.heap.size + 1, 0, none⟩ = some (.int .i64 c) ∧ X.cell? ⟨w.heap.size + 1, 1, none⟩ = some (.int .i64 s)) ⟨((Below.refl _ _).alloc (Nat.le_refl _) _).alloc (by simp) _, by go_simp, by go_simp, by go_simp⟩ ?_
  rintro X ⟨hbX, x0, x1, x2⟩
  have HX := Lib.hid hbX
  clear hbX
  go_quiet (fail)
  go_wp2
  go_ret
  exact ⟨retI HP.out.symm, below_drewN HX.out _⟩
set_option maxHeartbeats 400000 in
theorem rplace_big (A : Option Addr) (n cap : Nat) (L : List (ByteArray × Int)) (VA VB VF : Option Addr) (ca cb cf nf : Nat) (cells : List Int) (free : Nat) (W : List (Pt × Pt)) (c s : Int) (w : World) (hn : n = L.length) (HL : Hid (AgRd w A L)) (hs : SigOk L) (HC : Hid (IntsRd w VA cells)) (hc : cells.length ≤ 5000) (hf : free ≤ 100)
    (hnf : nf = cells.length) (HF : Hid (IntsRd w VF (firstL (pnL L) cells free cells.length))) (hc1 : c ≠ -1) (h : 0 ≤ c ∧ (cells.length : Int) ≤ c) :
    Calls Try.prog 15 #[.slice A n cap, netV VA ca cells free VB cb W, .slice VF nf cf, .agg #[.int .i64 c, .int .i64 s]] w fun e w' => e = .returned (.int .i64 (plcR (pnL L) cells free (c, s))) ∧ Below w.heap.size w w' := by
  have hll := hs.len
  subst hn hnf
  have hcb : (c == -1) = false := by rw [beq_eq_false_iff_ne]; exact hc1
  have HP : Hid (plcR (pnL L) cells free (c, s) = -1) := by
    show _ = _
    unfold plcR isPt
    rw [if_neg hc1, if_neg (by simp only [decide_eq_true_eq]; omega)]
  obtain ⟨h, h'⟩ := h
  clear HL HC HF hs hc hf
  have d1 : decide (c < 0) = false := by simpa using h
  have d2 : decide ((cells.length : Int) ≤ c) = true := by simpa using h'
  go_enter Try.func15, Try.ntmps15
  go_wp2_with fail
  refine absW (fun X => Below w.heap.size w X ∧ X.cell? ⟨w.heap.size, 0, none⟩ = some (.slice VA cells.length ca) ∧ X.cell? ⟨w.heap.size + 1, 0, none⟩ = some (.int .i64 c) ∧ X.cell? ⟨w.heap.size + 1, 1, none⟩ = some (.int .i64 s)) ⟨((Below.refl _ _).alloc (Nat.le_refl _) _).alloc (by simp) _, by go_simp, by go_simp, by go_simp⟩ ?_
  rintro X ⟨hbX, x0, x1, x2⟩
  have HX := Lib.hid hbX
  clear hbX
  go_quiet (fail)
  go_wp2
  go_ret
  exact ⟨retI HP.out.symm, below_drewN HX.out _⟩
set_option maxHeartbeats 400000 in
theorem rplace_slot (A : Option Addr) (n cap : Nat) (L : List (ByteArray × Int)) (VA VB VF : Option Addr) (ca cb cf nf : Nat) (cells : List Int) (free : Nat) (W : List (Pt × Pt)) (c s : Int) (w : World) (hn : n = L.length) (HL : Hid (AgRd w A L)) (hs : SigOk L) (HC : Hid (IntsRd w VA cells)) (hc : cells.length ≤ 5000) (hf : free ≤ 100)
    (hnf : nf = cells.length) (HF : Hid (IntsRd w VF (firstL (pnL L) cells free cells.length))) (hc1 : c ≠ -1) (h : 0 ≤ c ∧ c < cells.length ∧ s < 0) :
    Calls Try.prog 15 #[.slice A n cap, netV VA ca cells free VB cb W, .slice VF nf cf, .agg #[.int .i64 c, .int .i64 s]] w fun e w' => e = .returned (.int .i64 (plcR (pnL L) cells free (c, s))) ∧ Below w.heap.size w w' := by
  have hll := hs.len
  subst hn hnf
  have hcb : (c == -1) = false := by rw [beq_eq_false_iff_ne]; exact hc1
  have HP : Hid (plcR (pnL L) cells free (c, s) = -1) := by
    show _ = _
    unfold plcR isPt
    rw [if_neg hc1, if_neg (by simp only [decide_eq_true_eq]; omega)]
  obtain ⟨h, h', h''⟩ := h
  clear HL HC HF hs hc hf
  have d1 : decide (c < 0) = false := by simpa using h
  have d2 : decide ((cells.length : Int) ≤ c) = false := by simpa using h'
  have d3 : decide (s < 0) = true := by simpa using h''
  go_enter Try.func15, Try.ntmps15
  go_wp2_with fail
  refine absW (fun X => Below w.heap.size w X ∧ X.cell? ⟨w.heap.size, 0, none⟩ = some (.slice VA cells.length ca) ∧ X.cell? ⟨w.heap.size + 1, 0, none⟩ = some (.int .i64 c) ∧ X.cell? ⟨w.heap.size + 1, 1, none⟩ = some (.int .i64 s)) ⟨((Below.refl _ _).alloc (Nat.le_refl _) _).alloc (by simp) _, by go_simp, by go_simp, by go_simp⟩ ?_
  rintro X ⟨hbX, x0, x1, x2⟩
  have HX := Lib.hid hbX
  clear hbX
  go_quiet (fail)
  go_wp2
  go_ret
  exact ⟨retI HP.out.symm, below_drewN HX.out _⟩
set_option maxHeartbeats 800000 in
theorem rplace_ok (A : Option Addr) (n cap : Nat) (L : List (ByteArray × Int)) (VA VB VF : Option Addr) (ca cb cf nf : Nat) (cells : List Int) (free : Nat) (W : List (Pt × Pt)) (c s : Int) (w : World) (hn : n = L.length) (HL : Hid (AgRd w A L)) (hs : SigOk L) (HC : Hid (IntsRd w VA cells)) (hc : cells.length ≤ 5000) (hf : free ≤ 100)
    (hnf : nf = cells.length) (HF : Hid (IntsRd w VF (firstL (pnL L) cells free cells.length))) (hc1 : c ≠ -1) (h : 0 ≤ c ∧ c < cells.length ∧ 0 ≤ s) :
    Calls Try.prog 15 #[.slice A n cap, netV VA ca cells free VB cb W, .slice VF nf cf, .agg #[.int .i64 c, .int .i64 s]] w fun e w' => e = .returned (.int .i64 (plcR (pnL L) cells free (c, s))) ∧ Below w.heap.size w w' := by
  have hll := hs.len
  subst hn hnf
  have hcb : (c == -1) = false := by rw [beq_eq_false_iff_ne]; exact hc1
  obtain ⟨h, h', h''⟩ := h
  obtain ⟨k, rfl⟩ := Int.eq_ofNat_of_zero_le h
  have hk : k < cells.length := by omega
  obtain ⟨b, off, rfl, hb, e0⟩ := HC.out k hk
  obtain ⟨b2, off2, rfl, hb2, e2⟩ := HF.out k (by rw [firstL_len]; exact hk)
  have hfk : (firstL (pnL L) cells free cells.length).getD k 0 = (firstN (pnL L) cells free k : Int) := by simp [firstL, hk]
  rw [hfk] at e2
  have hle := firstN_le (pnL_le hs) cells free k
  have HP : Hid (plcR (pnL L) cells free ((k : Int), s) = if (pnL L (cells.getD k 0) : Int) ≤ s then -1 else (firstN (pnL L) cells free k : Int) + s) := by
    show _ = _
    unfold plcR isPt plc
    rw [if_neg hc1, if_neg hc1]
    simp only [Int.toNat_natCast, decide_eq_true_eq]
    by_cases hh : (pnL L (cells.getD k 0) : Int) ≤ s
    · rw [if_pos hh, if_neg (by omega)]
    · rw [if_neg hh, if_pos (by omega)]; omega
  have hp := Lib.hid (hs.ports (cells.getD k 0))
  have HPE := Lib.hid (pnL_eq hs (cells.getD k 0))
  have hp7 := pnL_le hs (cells.getD k 0)
  generalize cells.getD k 0 = x at e0 HP hp HPE hp7
  have d1 : decide ((k : Int) < 0) = false := by simp
  have d2 : decide ((cells.length : Int) ≤ (k : Int)) = false := by simpa using hk
  have d3 : decide (s < 0) = false := by simpa using h''
  clear HC HF hs
  by_cases hbig : (pnL L x : Int) ≤ s
  all_goals
    go_enter Try.func15, Try.ntmps15
    go_wp2_with fail
    refine absW (fun X => Below w.heap.size w X ∧ X.cell? ⟨w.heap.size, 0, none⟩ = some (.slice (some ⟨b, off, none⟩) cells.length ca) ∧ X.cell? ⟨w.heap.size + 1, 0, none⟩ = some (.int .i64 (k : Int)) ∧ X.cell? ⟨w.heap.size + 1, 1, none⟩ = some (.int .i64 s)) ⟨((Below.refl _ _).alloc (Nat.le_refl _) _).alloc (by simp) _, by go_simp, by go_simp, by go_simp⟩ ?_
    rintro X ⟨hbX, x0, x1, x2⟩
    have HX := Lib.hid hbX
    have y0 : X.cell? ⟨b, off + k, none⟩ = some (.int .i64 x) := (hbX.cell (p := ⟨b, off + k, none⟩) hb).trans e0
    have y2 : X.cell? ⟨b2, off2 + k, none⟩ = some (.int .i64 (firstN (pnL L) cells free k : Int)) := (hbX.cell (p := ⟨b2, off2 + k, none⟩) hb2).trans e2
    have HQ : Hid (∀ n, AgRd (X.drewN n) A L) := fun n => HL.out.below (below_drewN hbX n)
    clear hbX e0 e2
    go_quiet (exact Calls.quiet_of_same ((rports_any _ _ _ L _ _ rfl (by simp only [maxLen]; omega) (HQ.out _) hp.out.2.2).mono fun e w' h => ⟨by rw [h.1, HPE.out], h.2.symm⟩))
    go_wp2_with fail
  · go_ret
    exact ⟨retI (by rw [HP.out, if_pos hbig]), below_drewN HX.out _⟩
  · go_quiet (fail)
    go_wp2
    go_ret
    exact ⟨retI (by rw [HP.out, if_neg (by omega)]), below_drewN (below_drewN HX.out _) _⟩
theorem rplace (A : Option Addr) (n cap : Nat) (L : List (ByteArray × Int)) (VA VB VF : Option Addr) (ca cb cf nf : Nat) (cells : List Int) (free : Nat) (W : List (Pt × Pt)) (c s : Int) (w : World) (hn : n = L.length) (HL : Hid (AgRd w A L)) (hs : SigOk L) (HC : Hid (IntsRd w VA cells)) (hc : cells.length ≤ 5000) (hf : free ≤ 100)
    (hnf : nf = cells.length) (HF : Hid (IntsRd w VF (firstL (pnL L) cells free cells.length))) :
    Calls Try.prog 15 #[.slice A n cap, netV VA ca cells free VB cb W, .slice VF nf cf, .agg #[.int .i64 c, .int .i64 s]] w fun e w' => e = .returned (.int .i64 (plcR (pnL L) cells free (c, s))) ∧ Below w.heap.size w w' := by
  by_cases hc1 : c = -1
  · exact rplace_free A n cap L VA VB VF ca cb cf nf cells free W c s w hn HL hs HC hc hf hnf HF hc1
  · rcases (by omega : c < 0 ∨ (0 ≤ c ∧ (cells.length : Int) ≤ c) ∨ (0 ≤ c ∧ c < cells.length ∧ s < 0) ∨ (0 ≤ c ∧ c < cells.length ∧ 0 ≤ s)) with h | h | h | h
    · exact rplace_neg A n cap L VA VB VF ca cb cf nf cells free W c s w hn HL hs HC hc hf hnf HF hc1 h
    · exact rplace_big A n cap L VA VB VF ca cb cf nf cells free W c s w hn HL hs HC hc hf hnf HF hc1 h
    · exact rplace_slot A n cap L VA VB VF ca cb cf nf cells free W c s w hn HL hs HC hc hf hnf HF hc1 h
    · exact rplace_ok A n cap L VA VB VF ca cb cf nf cells free W c s w hn HL hs HC hc hf hnf HF hc1 h
end Go.Proofs.Ytogbanlfihabpaa
