/-
  Contracts of skeinref03: All.
-/
import Derived.Test.YtogbanlfihabpaaRef03P
namespace Go.Proofs.Ytogbanlfihabpaa
open Go.RowKit
attribute [local go_sem] cell_set
set_option maxRecDepth 100000
set_option linter.unusedVariables false

def pvals (P : List Pt) : List Value := P.flatMap fun x => [Value.int .i64 x.1, .int .i64 x.2]
theorem pvals_snoc (P : List Pt) (p : Pt) : pvals (P ++ [p]) = pvals P ++ [.int .i64 p.1, .int .i64 p.2] := by simp [pvals]
theorem pvals_len (P : List Pt) : (pvals P).length = P.length * 2 := by
  induction P with
  | nil => rfl
  | cons p r ih => simp only [pvals, List.flatMap_cons, List.length_append, List.length_cons, List.length_nil] at ih ⊢; omega
theorem pvals_at (P : List Pt) {i : Nat} (hi : i < P.length) : (pvals P)[i * 2]? = some (.int .i64 (P.getD i default).1) ∧ (pvals P)[i * 2 + 1]? = some (.int .i64 (P.getD i default).2) := by
  induction P generalizing i with
  | nil => simp at hi
  | cons p r ih =>
    have hc : pvals (p :: r) = .int .i64 p.1 :: .int .i64 p.2 :: pvals r := rfl
    cases i with
    | zero => rw [hc]; exact ⟨rfl, rfl⟩
    | succ i =>
      rw [hc, show (i + 1) * 2 = i * 2 + 1 + 1 by omega]
      have := ih (i := i) (by simpa using hi)
      simpa using this
theorem port_info : (Try.prog.info? 41).map (fun i => (i.zero, i.size, i.bytes)) = some (some (.agg #[.int .i64 0, .int .i64 0]), 2, 16) := by kernel_rfl
theorem freePs_succ (k : Nat) : freePs (k + 1) = freePs k ++ [((-1 : Int), (k : Int))] := by simp [freePs, List.range_succ]
theorem cellPs_snoc (pn : Int → Nat) (c0 : Nat) (l : List Int) (a : Int) : cellPs pn c0 (l ++ [a]) = cellPs pn c0 l ++ (List.range (pn a)).map fun (k : Nat) => (((c0 + l.length : Nat) : Int), (k : Int)) := by
  induction l generalizing c0 with
  | nil => simp [cellPs]
  | cons x r ih => rw [List.cons_append, cellPs, cellPs, ih, List.append_assoc, List.length_cons, show c0 + 1 + r.length = c0 + (r.length + 1) by omega]
/-- The ports ahead of slot s of cell c. -/
def partPs (pn : Int → Nat) (cells : List Int) (free c s : Nat) : List Pt := freePs free ++ (cellPs pn 0 (cells.take c) ++ (List.range s).map fun (k : Nat) => ((c : Int), (k : Int)))
theorem partPs_succ (pn : Int → Nat) (cells : List Int) (free c s : Nat) : partPs pn cells free c (s + 1) = partPs pn cells free c s ++ [((c : Int), (s : Int))] := by
  simp [partPs, List.range_succ]
theorem partPs_next (pn : Int → Nat) (cells : List Int) (free : Nat) {c : Nat} (hc : c < cells.length) : partPs pn cells free c (pn (cells.getD c 0)) = partPs pn cells free (c + 1) 0 := by
  have e : cells.take (c + 1) = cells.take c ++ [cells.getD c 0] := by rw [List.take_add_one, List.getElem?_eq_getElem hc, List.getD_eq_getElem?_getD, List.getElem?_eq_getElem hc]; rfl
  unfold partPs
  rw [e, cellPs_snoc]
  simp; omega
theorem partPs_all (pn : Int → Nat) (cells : List Int) (free : Nat) : partPs pn cells free cells.length 0 = allPs pn cells free := by simp [partPs, allPs]
theorem partPs_len (pn : Int → Nat) (h7 : ∀ a, pn a ≤ 7) (cells : List Int) (free : Nat) {c s : Nat} (hc : c ≤ cells.length) (hs : s ≤ 7) : (partPs pn cells free c s).length ≤ free + 7 * c + s := by
  have := firstN_le h7 (cells.take c) free (cells.take c).length
  unfold firstN at this
  rw [List.take_length] at this
  simp only [partPs, freePs, List.length_append, List.length_map, List.length_range, cellPs_len]
  have h2 : (cells.take c).length ≤ c := by simp; omega
  omega

set_option maxHeartbeats 1000000 in
theorem rall (A : Option Addr) (n cap : Nat) (L : List (ByteArray × Int)) (VA VB : Option Addr) (ca cb : Nat) (cells : List Int) (free : Nat) (W : List (Pt × Pt)) (w : World) (hn : n = L.length) (HL : Hid (AgRd w A L)) (hs : SigOk L) (HC : Hid (IntsRd w VA cells)) (hc : cells.length ≤ 5000) (hf : free ≤ 100) :
    Calls Try.prog 11 #[.slice A n cap, netV VA ca cells free VB cb W] w fun e w' => ∃ V c, e = .returned (.slice V (allPs (pnL L) cells free).length c) ∧ Fresh w w' 41 2 (allPs (pnL L) cells free).length (.slice V (allPs (pnL L) cells free).length c) (pvals (allPs (pnL L) cells free)) := by
  have hll := hs.len
  subst hn
  obtain ⟨i0, hi0, hi1, hi2, hi3⟩ := info_parts port_info
  go_enter Try.func11, Try.ntmps11
  go_wp2_with fail
  refine absW (fun X => Below w.heap.size w X ∧ NBox X w.heap.size VA cells.length ca free VB W.length cb) ⟨(Below.refl _ _).alloc (Nat.le_refl _) _, by simp, by go_simp, by go_simp, by go_simp⟩ ?_
  rintro X ⟨hbX, nb⟩
  have HX := Lib.hid (And.intro hbX nb)
  clear hbX nb
  go_loopw [5, 6] (fun l i wr => ∃ k : Nat, ∃ V c, i = .int .i64 k ∧ k ≤ free ∧ l = .slice V k c ∧ Hid (Fresh X wr 41 2 k (.slice V k c) (pvals (freePs k)))) (fun _ i _ => free - (intOf i).toNat)
  case atStart => exact ⟨0, none, 0, rfl, by omega, rfl, Lib.hid (Fresh.nil _ _ _)⟩
  case round =>
    obtain ⟨k, V, c, rfl, hk, rfl, HF⟩ := hrel
    have nbr := HX.out.2.below HF.out.2.2
    have n0 := nbr.c0
    have n1 := nbr.c1
    by_cases hlt : k < free
    · have HRow : Hid (Row (wr.alloc (.cells #[.int .i64 (-1), .int .i64 (k : Int)] 41)) 41 2 (.slice V k c) k (pvals (freePs k))) := HF.out.1.alloc _
      have HSrc : Hid (Src (wr.alloc (.cells #[.int .i64 (-1), .int .i64 (k : Int)] 41)) (some ⟨wr.heap.size, 0, none⟩) 1 2 [.int .i64 (-1), .int .i64 (k : Int)]) :=
        Src.block (cs := #[.int .i64 (-1), .int .i64 (k : Int)]) (t := 41) (fr := (0, 0)) (heap_alloc_new wr _) rfl (by simp [Value.oneCell'])
      have HB63 : k + 1 ≤ maxLen := by simp only [maxLen]; omega
      have HB47 : (k + 1) * 16 ≤ 140737488355328 := by omega
      go_wp2_with (at_builtin; go_loud (refine inPlain rfl (wpo_row_append _ _ _ rfl i0 _ 16 Try.underlying44 hi0 hi1 hi2 hi3 rfl rfl HRow.out _ 1 1 rfl [.int .i64 (-1), .int .i64 (k : Int)] HSrc.out HB63 HB47 ?_)); intro sv5 w5 r5 k5 o5; obtain ⟨V5, cp5, rfl, hc5⟩ := r5.len
                   have F5 : Hid (Fresh X w5 41 2 (k + 1) (.slice V5 (k + 1) cp5) (pvals (freePs (k + 1)))) := by rw [freePs_succ, pvals_snoc]; exact HF.out.app k5 o5 r5)
      go_roundw
      case rel => exact ⟨k + 1, V5, cp5, by go_num, by omega, rfl, F5⟩
      case measure => simp [intOf]; omega
    · obtain rfl : k = free := by omega
      go_wp2_with fail
      have HF0 : Hid (Fresh X wr 41 2 (partPs (pnL L) cells k 0 0).length (.slice V (partPs (pnL L) cells k 0 0).length c) (pvals (partPs (pnL L) cells k 0 0))) := by
        have e : partPs (pnL L) cells k 0 0 = freePs k := by simp [partPs, cellPs]
        have e2 : (freePs k).length = k := by simp [freePs]
        rw [e, e2]
        exact HF
      have hk0 : ((k : Int)) = ((partPs (pnL L) cells k 0 0).length : Int) := by simp [partPs, cellPs, freePs]
      have hk1 : k = (partPs (pnL L) cells k 0 0).length := by omega
      clear HF n0 n1 nbr
      go_loopw [5, 7] (fun l i w2 => ∃ d : Nat, ∃ V c, i = .int .i64 d ∧ d ≤ cells.length ∧ l = .slice V (partPs (pnL L) cells k d 0).length c ∧ Hid (Fresh X w2 41 2 (partPs (pnL L) cells k d 0).length (.slice V (partPs (pnL L) cells k d 0).length c) (pvals (partPs (pnL L) cells k d 0)))) (fun _ i _ => cells.length - (intOf i).toNat)
      case atStart => exact ⟨0, V, c, rfl, by omega, by rw [← hk1], HF0⟩
      case round =>
        clear HF0 hk0 hk1
        obtain ⟨d, V2, c2, rfl, hd, rfl, HF2⟩ := hrel
        have nbr := HX.out.2.below HF2.out.2.2
        have n0 := nbr.c0
        by_cases hltd : d < cells.length
        · obtain ⟨b, off, rfl, hb, e0⟩ := HC.out d hltd
          have hnext := partPs_next (pnL L) cells k hltd
          have hp := Lib.hid (hs.ports (cells.getD d 0))
          have HPE := Lib.hid (pnL_eq hs (cells.getD d 0))
          have hp7 := pnL_le hs (cells.getD d 0)
          generalize cells.getD d 0 = x at e0 hnext hp HPE hp7
          have HNX := Lib.hid hnext
          clear hnext
          go_wp2_with fail
          go_loopw [5, 8] (fun l i w3 => ∃ s : Nat, ∃ V c, i = .int .i64 s ∧ s ≤ pnL L x ∧ l = .slice V (partPs (pnL L) cells k d s).length c ∧ Hid (Fresh X w3 41 2 (partPs (pnL L) cells k d s).length (.slice V (partPs (pnL L) cells k d s).length c) (pvals (partPs (pnL L) cells k d s)))) (fun _ i _ => pnL L x - (intOf i).toNat)
          case atStart => exact ⟨0, V2, c2, rfl, by omega, rfl, HF2⟩
          case round =>
            clear HF2 nbr n0
            obtain ⟨s, V3, c3, rfl, hs3, rfl, HF3⟩ := hrel
            have nbr := HX.out.2.below HF3.out.2.2
            have n0 := nbr.c0
            have hw3 : Below w.heap.size w wr := HX.out.1.trans (HF3.out.2.2.mono HX.out.1.size)
            have e3 := (hw3.cell (p := ⟨b, off + d, none⟩) hb).trans e0
            have HL3 := Lib.hid (HL.out.below hw3)
            have hlen := partPs_len (pnL L) (pnL_le hs) cells k (c := d) (s := s) hd (by omega)
            by_cases hlts : s < pnL L x
            · have HRow : Hid (Row (wr.alloc (.cells #[.int .i64 (d : Int), .int .i64 (s : Int)] 41)) 41 2 (.slice V3 (partPs (pnL L) cells k d s).length c3) (partPs (pnL L) cells k d s).length (pvals (partPs (pnL L) cells k d s))) := HF3.out.1.alloc _
              have HSrc : Hid (Src (wr.alloc (.cells #[.int .i64 (d : Int), .int .i64 (s : Int)] 41)) (some ⟨wr.heap.size, 0, none⟩) 1 2 [.int .i64 (d : Int), .int .i64 (s : Int)]) :=
                Src.block (cs := #[.int .i64 (d : Int), .int .i64 (s : Int)]) (t := 41) (fr := (0, 0)) (heap_alloc_new wr _) rfl (by simp [Value.oneCell'])
              have HS3 := Lib.hid (partPs_succ (pnL L) cells k d s)
              have hl3 : (partPs (pnL L) cells k d (s + 1)).length = (partPs (pnL L) cells k d s).length + 1 := by rw [HS3.out]; simp
              have HB63 : (partPs (pnL L) cells k d s).length + 1 ≤ maxLen := by simp only [maxLen]; omega
              have HB47 : ((partPs (pnL L) cells k d s).length + 1) * 16 ≤ 140737488355328 := by omega
              go_wp2_with (first
                | (go_at_call 27; refine (rports_any _ _ _ L _ _ rfl (by simp only [maxLen]; omega) HL3 hp.out.2.2).mono ?_; rintro e w6 ⟨rfl, rfl⟩; rw [HPE.out])
                | (at_builtin; go_loud (refine inPlain rfl (wpo_row_append _ _ _ rfl i0 _ 16 Try.underlying44 hi0 hi1 hi2 hi3 rfl rfl HRow.out _ 1 1 rfl [.int .i64 (d : Int), .int .i64 (s : Int)] HSrc.out HB63 HB47 ?_)); intro sv5 w5 r5 k5 o5; obtain ⟨V5, cp5, rfl, hc5⟩ := r5.len
                   have F5 : Hid (Fresh X w5 41 2 (partPs (pnL L) cells k d (s + 1)).length (.slice V5 (partPs (pnL L) cells k d (s + 1)).length cp5) (pvals (partPs (pnL L) cells k d (s + 1)))) := by rw [hl3, HS3.out, pvals_snoc]; exact HF3.out.app k5 o5 r5))
              go_roundw
              case rel => exact ⟨s + 1, V5, cp5, by go_num, by omega, by rw [hl3], F5⟩
              case measure => simp [intOf]; omega
            · obtain rfl : s = pnL L x := by omega
              go_wp2_with (go_at_call 27; refine (rports_any _ _ _ L _ _ rfl (by simp only [maxLen]; omega) HL3 hp.out.2.2).mono ?_; rintro e w6 ⟨rfl, rfl⟩; rw [HPE.out])
              go_roundw
              case rel => exact ⟨d + 1, V3, c3, by go_num, by omega, by rw [HNX.out], by rw [← HNX.out]; exact HF3⟩
              case measure => simp [intOf]; omega
        · obtain rfl : d = cells.length := by omega
          rw [partPs_all] at HF2 ⊢
          go_wp2
          go_ret
          exact ⟨V2, c2, rfl, HF2.out.from HX.out.1⟩
end Go.Proofs.Ytogbanlfihabpaa
