/-
  Contracts of skeinref03: Links.
-/
import Derived.Test.YtcebejcdfdahjaaRef03P
/-
  Contracts of skeinref03: All.
-/
namespace Go.Proofs.Ytcebejcdfdahjaa
open Go.RowKit
attribute [local go_sem] cell_set
set_option maxRecDepth 100000
set_option linter.unusedVariables false

def pvals (P : List Pt) : List Value := P.flatMap fun x => [Value.int .i64 x.1, .int .i64 x.2]
theorem pvals_snoc (P : List Pt) (p : Pt) : pvals (P ++ [p]) = pvals P ++ [.int .i64 p.1, .int .i64 p.2] := by simp [pvals]
theorem pvals_len (P : List Pt) : (pvals P).length = P.length * 2 := by
  induction P with
  | nil => rfl
  | cons p r ih => simp only [pvals, List.flatMap_cons, List.length_append, List.length_cons, List.length_nil] at ih ⊢; omega
theorem pvals_at (P : List Pt) {i : Nat} (hi : i < P.length) : (pvals P)[i * 2]? = some (.int .i64 (P.getD i default).1) ∧ (pvals P)[i * 2 + 1]? = some (.int .i64 (P.getD i default).2) := by
  induction P generalizing i with
  | nil => simp at hi
  | cons p r ih =>
    have hc : pvals (p :: r) = .int .i64 p.1 :: .int .i64 p.2 :: pvals r := rfl
    cases i with
    | zero => rw [hc]; exact ⟨rfl, rfl⟩
    | succ i =>
      rw [hc, show (i + 1) * 2 = i * 2 + 1 + 1 by omega]
      have := ih (i := i) (by simpa using hi)
      simpa using this
theorem port_info : (Try.prog.info? 78).map (fun i => (i.zero, i.size, i.bytes)) = some (some (.agg #[.int .i64 0, .int .i64 0]), 2, 16) := by kernel_rfl
theorem freePs_succ (k : Nat) : freePs (k + 1) = freePs k ++ [((-1 : Int), (k : Int))] := by simp [freePs, List.range_succ]
theorem cellPs_snoc (pn : Int → Nat) (c0 : Nat) (l : List Int) (a : Int) : cellPs pn c0 (l ++ [a]) = cellPs pn c0 l ++ (List.range (pn a)).map fun (k : Nat) => (((c0 + l.length : Nat) : Int), (k : Int)) := by
  induction l generalizing c0 with
  | nil => simp [cellPs]
  | cons x r ih => rw [List.cons_append, cellPs, cellPs, ih, List.append_assoc, List.length_cons, show c0 + 1 + r.length = c0 + (r.length + 1) by omega]
/-- The ports ahead of slot s of cell c. -/
def partPs (pn : Int → Nat) (cells : List Int) (free c s : Nat) : List Pt := freePs free ++ (cellPs pn 0 (cells.take c) ++ (List.range s).map fun (k : Nat) => ((c : Int), (k : Int)))
theorem partPs_succ (pn : Int → Nat) (cells : List Int) (free c s : Nat) : partPs pn cells free c (s + 1) = partPs pn cells free c s ++ [((c : Int), (s : Int))] := by
  simp [partPs, List.range_succ]
theorem partPs_next (pn : Int → Nat) (cells : List Int) (free : Nat) {c : Nat} (hc : c < cells.length) : partPs pn cells free c (pn (cells.getD c 0)) = partPs pn cells free (c + 1) 0 := by
  have e : cells.take (c + 1) = cells.take c ++ [cells.getD c 0] := by rw [List.take_add_one, List.getElem?_eq_getElem hc, List.getD_eq_getElem?_getD, List.getElem?_eq_getElem hc]; rfl
  unfold partPs
  rw [e, cellPs_snoc]
  simp; omega
theorem partPs_all (pn : Int → Nat) (cells : List Int) (free : Nat) : partPs pn cells free cells.length 0 = allPs pn cells free := by simp [partPs, allPs]
theorem partPs_len (pn : Int → Nat) (h7 : ∀ a, pn a ≤ 7) (cells : List Int) (free : Nat) {c s : Nat} (hc : c ≤ cells.length) (hs : s ≤ 7) : (partPs pn cells free c s).length ≤ free + 7 * c + s := by
  have := firstN_le h7 (cells.take c) free (cells.take c).length
  unfold firstN at this
  rw [List.take_length] at this
  simp only [partPs, freePs, List.length_append, List.length_map, List.length_range, cellPs_len]
  have h2 : (cells.take c).length ≤ c := by simp; omega
  omega

set_option maxHeartbeats 1000000 in
theorem rall (A : Option Addr) (n cap : Nat) (L : List (ByteArray × Int)) (VA VB : Option Addr) (ca cb : Nat) (cells : List Int) (free : Nat) (W : List (Pt × Pt)) (w : World) (hn : n = L.length) (HL : Hid (AgRd w A L)) (hs : SigOk L) (HC : Hid (IntsRd w VA cells)) (hc : cells.length ≤ 5000) (hf : free ≤ 100) :
    Calls Try.prog 42 #[.slice A n cap, netV VA ca cells free VB cb W] w fun e w' => ∃ V c, e = .returned (.slice V (allPs (pnL L) cells free).length c) ∧ Fresh w w' 78 2 (allPs (pnL L) cells free).length (.slice V (allPs (pnL L) cells free).length c) (pvals (allPs (pnL L) cells free)) := by
  have hll := hs.len
  subst hn
  obtain ⟨i0, hi0, hi1, hi2, hi3⟩ := info_parts port_info
  go_enter Try.func42, Try.ntmps42
  go_wp2_with fail
  refine absW (fun X => Below w.heap.size w X ∧ NBox X w.heap.size VA cells.length ca free VB W.length cb) ⟨(Below.refl _ _).alloc (Nat.le_refl _) _, by simp, by go_simp, by go_simp, by go_simp⟩ ?_
  rintro X ⟨hbX, nb⟩
  have HX := Lib.hid (And.intro hbX nb)
  clear hbX nb
  go_loopw [5, 6] (fun l i wr => ∃ k : Nat, ∃ V c, i = .int .i64 k ∧ k ≤ free ∧ l = .slice V k c ∧ Hid (Fresh X wr 78 2 k (.slice V k c) (pvals (freePs k)))) (fun _ i _ => free - (intOf i).toNat)
  case atStart => exact ⟨0, none, 0, rfl, by omega, rfl, Lib.hid (Fresh.nil _ _ _)⟩
  case round =>
    obtain ⟨k, V, c, rfl, hk, rfl, HF⟩ := hrel
    have nbr := HX.out.2.below HF.out.2.2
    have n0 := nbr.c0
    have n1 := nbr.c1
    by_cases hlt : k < free
    · have HRow : Hid (Row (wr.alloc (.cells #[.int .i64 (-1), .int .i64 (k : Int)] 78)) 78 2 (.slice V k c) k (pvals (freePs k))) := HF.out.1.alloc _
      have HSrc : Hid (Src (wr.alloc (.cells #[.int .i64 (-1), .int .i64 (k : Int)] 78)) (some ⟨wr.heap.size, 0, none⟩) 1 2 [.int .i64 (-1), .int .i64 (k : Int)]) :=
        Src.block (cs := #[.int .i64 (-1), .int .i64 (k : Int)]) (t := 78) (fr := (0, 0)) (heap_alloc_new wr _) rfl (by simp [Value.oneCell'])
      have HB63 : k + 1 ≤ maxLen := by simp only [maxLen]; omega
      have HB47 : (k + 1) * 16 ≤ 140737488355328 := by omega
      go_wp2_with (at_builtin; go_loud (refine inPlain rfl (wpo_row_append _ _ _ rfl i0 _ 16 Try.underlying47 hi0 hi1 hi2 hi3 rfl rfl HRow.out _ 1 1 rfl [.int .i64 (-1), .int .i64 (k : Int)] HSrc.out HB63 HB47 ?_)); intro sv5 w5 r5 k5 o5; obtain ⟨V5, cp5, rfl, hc5⟩ := r5.len
                   have F5 : Hid (Fresh X w5 78 2 (k + 1) (.slice V5 (k + 1) cp5) (pvals (freePs (k + 1)))) := by rw [freePs_succ, pvals_snoc]; exact HF.out.app k5 o5 r5)
      go_roundw
      case rel => exact ⟨k + 1, V5, cp5, by go_num, by omega, rfl, F5⟩
      case measure => simp [intOf]; omega
    · obtain rfl : k = free := by omega
      go_wp2_with fail
      have HF0 : Hid (Fresh X wr 78 2 (partPs (pnL L) cells k 0 0).length (.slice V (partPs (pnL L) cells k 0 0).length c) (pvals (partPs (pnL L) cells k 0 0))) := by
        have e : partPs (pnL L) cells k 0 0 = freePs k := by simp [partPs, cellPs]
        have e2 : (freePs k).length = k := by simp [freePs]
        rw [e, e2]
        exact HF
      have hk0 : ((k : Int)) = ((partPs (pnL L) cells k 0 0).length : Int) := by simp [partPs, cellPs, freePs]
      have hk1 : k = (partPs (pnL L) cells k 0 0).length := by omega
      clear HF n0 n1 nbr
      go_loopw [5, 7] (fun l i w2 => ∃ d : Nat, ∃ V c, i = .int .i64 d ∧ d ≤ cells.length ∧ l = .slice V (partPs (pnL L) cells k d 0).length c ∧ Hid (Fresh X w2 78 2 (partPs (pnL L) cells k d 0).length (.slice V (partPs (pnL L) cells k d 0).length c) (pvals (partPs (pnL L) cells k d 0)))) (fun _ i _ => cells.length - (intOf i).toNat)
      case atStart => exact ⟨0, V, c, rfl, by omega, by rw [← hk1], HF0⟩
      case round =>
        clear HF0 hk0 hk1
        obtain ⟨d, V2, c2, rfl, hd, rfl, HF2⟩ := hrel
        have nbr := HX.out.2.below HF2.out.2.2
        have n0 := nbr.c0
        by_cases hltd : d < cells.length
        · obtain ⟨b, off, rfl, hb, e0⟩ := HC.out d hltd
          have hnext := partPs_next (pnL L) cells k hltd
          have hp := Lib.hid (hs.ports (cells.getD d 0))
          have HPE := Lib.hid (pnL_eq hs (cells.getD d 0))
          have hp7 := pnL_le hs (cells.getD d 0)
          generalize cells.getD d 0 = x at e0 hnext hp HPE hp7
          have HNX := Lib.hid hnext
          clear hnext
          go_wp2_with fail
          go_loopw [5, 8] (fun l i w3 => ∃ s : Nat, ∃ V c, i = .int .i64 s ∧ s ≤ pnL L x ∧ l = .slice V (partPs (pnL L) cells k d s).length c ∧ Hid (Fresh X w3 78 2 (partPs (pnL L) cells k d s).length (.slice V (partPs (pnL L) cells k d s).length c) (pvals (partPs (pnL L) cells k d s)))) (fun _ i _ => pnL L x - (intOf i).toNat)
          case atStart => exact ⟨0, V2, c2, rfl, by omega, rfl, HF2⟩
          case round =>
            clear HF2 nbr n0
            obtain ⟨s, V3, c3, rfl, hs3, rfl, HF3⟩ := hrel
            have nbr := HX.out.2.below HF3.out.2.2
            have n0 := nbr.c0
            have hw3 : Below w.heap.size w wr := HX.out.1.trans (HF3.out.2.2.mono HX.out.1.size)
            have e3 := (hw3.cell (p := ⟨b, off + d, none⟩) hb).trans e0
            have HL3 := Lib.hid (HL.out.below hw3)
            have hlen := partPs_len (pnL L) (pnL_le hs) cells k (c := d) (s := s) hd (by omega)
            by_cases hlts : s < pnL L x
            · have HRow : Hid (Row (wr.alloc (.cells #[.int .i64 (d : Int), .int .i64 (s : Int)] 78)) 78 2 (.slice V3 (partPs (pnL L) cells k d s).length c3) (partPs (pnL L) cells k d s).length (pvals (partPs (pnL L) cells k d s))) := HF3.out.1.alloc _
              have HSrc : Hid (Src (wr.alloc (.cells #[.int .i64 (d : Int), .int .i64 (s : Int)] 78)) (some ⟨wr.heap.size, 0, none⟩) 1 2 [.int .i64 (d : Int), .int .i64 (s : Int)]) :=
                Src.block (cs := #[.int .i64 (d : Int), .int .i64 (s : Int)]) (t := 78) (fr := (0, 0)) (heap_alloc_new wr _) rfl (by simp [Value.oneCell'])
              have HS3 := Lib.hid (partPs_succ (pnL L) cells k d s)
              have hl3 : (partPs (pnL L) cells k d (s + 1)).length = (partPs (pnL L) cells k d s).length + 1 := by rw [HS3.out]; simp
              have HB63 : (partPs (pnL L) cells k d s).length + 1 ≤ maxLen := by simp only [maxLen]; omega
              have HB47 : ((partPs (pnL L) cells k d s).length + 1) * 16 ≤ 140737488355328 := by omega
              go_wp2_with (first
                | (go_at_call 84; refine (rports_any _ _ _ L _ _ rfl (by simp only [maxLen]; omega) HL3 hp.out.2.2).mono ?_; rintro e w6 ⟨rfl, rfl⟩; rw [HPE.out])
                | (at_builtin; go_loud (refine inPlain rfl (wpo_row_append _ _ _ rfl i0 _ 16 Try.underlying47 hi0 hi1 hi2 hi3 rfl rfl HRow.out _ 1 1 rfl [.int .i64 (d : Int), .int .i64 (s : Int)] HSrc.out HB63 HB47 ?_)); intro sv5 w5 r5 k5 o5; obtain ⟨V5, cp5, rfl, hc5⟩ := r5.len
                   have F5 : Hid (Fresh X w5 78 2 (partPs (pnL L) cells k d (s + 1)).length (.slice V5 (partPs (pnL L) cells k d (s + 1)).length cp5) (pvals (partPs (pnL L) cells k d (s + 1)))) := by rw [hl3, HS3.out, pvals_snoc]; exact HF3.out.app k5 o5 r5))
              go_roundw
              case rel => exact ⟨s + 1, V5, cp5, by go_num, by omega, by rw [hl3], F5⟩
              case measure => simp [intOf]; omega
            · obtain rfl : s = pnL L x := by omega
              go_wp2_with (go_at_call 84; refine (rports_any _ _ _ L _ _ rfl (by simp only [maxLen]; omega) HL3 hp.out.2.2).mono ?_; rintro e w6 ⟨rfl, rfl⟩; rw [HPE.out])
              go_roundw
              case rel => exact ⟨d + 1, V3, c3, by go_num, by omega, by rw [HNX.out], by rw [← HNX.out]; exact HF3⟩
              case measure => simp [intOf]; omega
        · obtain rfl : d = cells.length := by omega
          rw [partPs_all] at HF2 ⊢
          go_wp2
          go_ret
          exact ⟨V2, c2, rfl, HF2.out.from HX.out.1⟩
end Go.Proofs.Ytcebejcdfdahjaa
namespace Go.Proofs.Ytcebejcdfdahjaa
open Go.RowKit
attribute [local go_sem] cell_set
set_option maxRecDepth 100000
set_option linter.unusedVariables false

/-- A row that 'make' made. -/
theorem Row.made (w : World) (e : TypeId) (z : Value) (n : Nat) (h63 : n ≤ maxLen) : Row (w.alloc (.cells (madeCells #[z] n) e)) e 1 (.slice (some ⟨w.heap.size, 0, none⟩) n n) n (List.replicate n z) :=
  ⟨by simp, .inr ⟨w.heap.size, n, _, rfl, heap_alloc_new w _, Nat.le_refl _, h63, by simp [size_madeCells], by rw [toList_madeCells_one]; simp⟩⟩
theorem ivals_replicate (n : Nat) : ivals (List.replicate n 0) = List.replicate n (.int .i64 0) := by simp [ivals]
theorem ivals_set (l : List Int) (j : Nat) (x : Int) : (ivals l).set j (.int .i64 x) = ivals (l.set j x) := by simp [ivals, List.map_set]
/-- Of each port's place the place of its partner, when k wires were read. -/
def lkK (pn : Int → Nat) (cells : List Int) (free : Nat) (W : List (Pt × Pt)) : Nat → List Int
  | 0 => List.replicate (firstN pn cells free cells.length) 0
  | k + 1 => ((lkK pn cells free W k).set (plc pn cells free (W.getD k default).1) (plc pn cells free (W.getD k default).2 : Int)).set (plc pn cells free (W.getD k default).2) (plc pn cells free (W.getD k default).1 : Int)
theorem lkK_len (pn : Int → Nat) (cells : List Int) (free : Nat) (W : List (Pt × Pt)) (k : Nat) : (lkK pn cells free W k).length = firstN pn cells free cells.length := by
  induction k with
  | zero => simp [lkK]
  | succ k ih => simp [lkK, ih]
theorem ends_at {W : List (Pt × Pt)} {k : Nat} (hk : k < W.length) : (W.getD k default).1 ∈ ends W ∧ (W.getD k default).2 ∈ ends W := by
  have hm : W.getD k default ∈ W := by rw [List.getD_eq_getElem?_getD, List.getElem?_eq_getElem hk]; exact List.getElem_mem hk
  unfold ends
  exact ⟨List.mem_flatMap.2 ⟨_, hm, by simp⟩, List.mem_flatMap.2 ⟨_, hm, by simp⟩⟩
theorem ends_ne {W : List (Pt × Pt)} (h : (ends W).Nodup) {k : Nat} (hk : k < W.length) : (W.getD k default).1 ≠ (W.getD k default).2 := by
  induction W generalizing k with
  | nil => simp at hk
  | cons x r ih =>
    have e : ends (x :: r) = x.1 :: x.2 :: ends r := by simp [ends]
    rw [e, List.nodup_cons, List.nodup_cons] at h
    cases k with
    | zero => exact fun e => h.1 (by simp at e; simp [e])
    | succ k => simpa using ih h.2.2 (k := k) (by simpa using hk)
theorem plcR_is {pn : Int → Nat} {cells : List Int} {free : Nat} {p : Pt} (h : isPt pn cells free p = true) : plcR pn cells free p = (plc pn cells free p : Int) := by unfold plcR; rw [if_pos h]

set_option maxHeartbeats 1000000 in
theorem rlinks (A : Option Addr) (n cap : Nat) (L : List (ByteArray × Int)) (VA VB : Option Addr) (ca cb : Nat) (cells : List Int) (free : Nat) (W : List (Pt × Pt)) (w : World) (hn : n = L.length) (HL : Hid (AgRd w A L)) (hs : SigOk L) (HC : Hid (IntsRd w VA cells)) (HW : Hid (WrRd w VB W)) (hc : cells.length ≤ 5000) (hf : free ≤ 100) (hw : W.length ≤ 40000)
    (hok : Hid (NetOk (pnL L) cells free W)) :
    Calls Try.prog 76 #[.slice A n cap, netV VA ca cells free VB cb W] w fun e w' => ∃ V c, e = .returned (.slice V (firstN (pnL L) cells free cells.length) c) ∧ Fresh w w' 3 1 (firstN (pnL L) cells free cells.length) (.slice V (firstN (pnL L) cells free cells.length) c) (ivals (lkK (pnL L) cells free W W.length)) := by
  have hll := hs.len
  subst hn
  obtain ⟨i0, hi0, hi1, hi2, hi3⟩ := info_parts int_info
  have hle := firstN_le (pnL_le hs) cells free cells.length
  go_enter Try.func76, Try.ntmps76
  have hbA : ∀ o : Obj, Below w.heap.size w (w.alloc o) := fun o => (Below.refl _ _).alloc (Nat.le_refl _) o
  generalize hM : firstN (pnL L) cells free cells.length = M at hle
  go_wp2_with (first
    | (go_at_call 66; refine (rfirst _ _ _ L VA VB ca cb cells free W _ rfl (Lib.hid (HL.out.below (hbA _))) hs (Lib.hid (HC.out.below (hbA _))) hc hf).mono ?_; rintro e w1 ⟨V1, c1, rfl, hF1⟩; rw [hM]
       have HB1 : Hid (Below w.heap.size w w1) := (hbA _).trans (hF1.2.2.mono (by simp))
       have nb : Hid (NBox w1 w.heap.size VA cells.length ca free VB W.length cb) := NBox.below (w := w.alloc _) ⟨by simp, by go_simp, by go_simp, by go_simp⟩ hF1.2.2
       have HF1 := Lib.hid hF1
       clear hF1)
    | (at_make; refine wpList_make_row _ rfl _ _ _ rfl _ i0 _ (by rfl) hi0 hi1 hi2 (by rfl) .i64 .i64 M (by rfl) (by rfl) (by rw [hi3]; omega) (by omega) ?_))
  have HCZ : Hid (∀ Z, Below w1.heap.size w1 Z → IntsRd Z VA cells) := fun Z h => (HC.out.below HB1.out).below h
  have HLZ : Hid (∀ Z, Below w1.heap.size w1 Z → AgRd Z A L) := fun Z h => (HL.out.below HB1.out).below h
  have HVZ : Hid (∀ Z, Below w1.heap.size w1 Z → IntsRd Z V1 (firstL (pnL L) cells free cells.length)) := fun Z h => by
    have e := HF1.out.1
    have : IntsRd w1 V1 (firstL (pnL L) cells free cells.length) := by
      have r := Row.ints (w := w1) (V := V1) (cap := c1) (l := firstL (pnL L) cells free cells.length) (by rw [firstL_len]; exact e)
      exact r
    exact this.below h
  have HR0 : Hid (Row (w1.alloc (.cells (madeCells #[.int .i64 0] M) 3)) 3 1 (.slice (some ⟨w1.heap.size, 0, none⟩) M M) M (ivals (lkK (pnL L) cells free W 0)) ∧ Below w1.heap.size w1 (w1.alloc (.cells (madeCells #[.int .i64 0] M) 3))) :=
    ⟨by rw [lkK, hM, ivals_replicate]; exact Row.made w1 _ _ M (by unfold maxLen; omega), (Below.refl _ _).alloc (Nat.le_refl _) _⟩
  go_loopw [8] (fun i wr => ∃ k : Nat, i = .int .i64 k ∧ k ≤ W.length ∧ Hid (Row wr 3 1 (.slice (some ⟨w1.heap.size, 0, none⟩) M M) M (ivals (lkK (pnL L) cells free W k)) ∧ Below w1.heap.size w1 wr)) (fun i _ => W.length - (intOf i).toNat)
  case atStart => exact ⟨0, rfl, by omega, HR0⟩
  case round =>
    obtain ⟨k, rfl, hk, HR⟩ := hrel
    have hbr := HR.out.2
    have nbr := nb.out.below hbr
    have n0 := nbr.c0
    have n1 := nbr.c1
    have n2 := nbr.c2
    have hz := hbr.size
    have HB := Lib.hid hbr
    have hnl := nb.out.lt
    have hgl : w1.heap.size < wr.heap.size := HR.out.1.lt _ (by simp [ownB])
    clear nbr hbr HR0
    by_cases hlt : k < W.length
    · obtain ⟨b, off, rfl, hb, e0, e1, e2, e3⟩ := HW.out k hlt
      have hwr := HB1.out.trans (HB.out.mono HB1.out.size)
      have d0 := (hwr.cell (p := ⟨b, off + k * 4, none⟩) hb).trans e0
      have d1 := (hwr.cell (p := ⟨b, off + k * 4 + 1, none⟩) hb).trans e1
      have d2 := (hwr.cell (p := ⟨b, off + k * 4 + 2, none⟩) hb).trans e2
      have d3 := (hwr.cell (p := ⟨b, off + k * 4 + 3, none⟩) hb).trans e3
      clear e0 e1 e2 e3
      have hm := ends_at hlt
      have i1 := hok.out.is _ hm.1
      have i2 := hok.out.is _ hm.2
      have l1 := plc_lt (pnL L) i1
      have l2 := plc_lt (pnL L) i2
      rw [hM] at l1 l2
      have hab : ¬ plc (pnL L) cells free (W.getD k default).1 = plc (pnL L) cells free (W.getD k default).2 := fun e => ends_ne hok.out.nodup hlt (plc_inj (pnL L) i1 i2 e)
      have hnx : lkK (pnL L) cells free W (k + 1) = ((lkK (pnL L) cells free W k).set (plc (pnL L) cells free (W.getD k default).1) (plc (pnL L) cells free (W.getD k default).2 : Int)).set (plc (pnL L) cells free (W.getD k default).2) (plc (pnL L) cells free (W.getD k default).1 : Int) := rfl
      have r1 := plcR_is i1
      have r2 := plcR_is i2
      generalize plc (pnL L) cells free (W.getD k default).1 = a at l1 hnx r1 hab
      generalize plc (pnL L) cells free (W.getD k default).2 = b2 at l2 hnx r2 hab
      generalize W.getD k default = x at d0 d1 d2 d3 r1 r2
      obtain ⟨⟨x0, x1⟩, x2, x3⟩ := x
      have HNX := Lib.hid hnx
      have HR1 : Hid (plcR (pnL L) cells free (x0, x1) = (a : Int)) := r1
      have HR2 : Hid (plcR (pnL L) cells free (x2, x3) = (b2 : Int)) := r2
      clear hnx r1 r2 i1 i2 hm hwr
      have hbz : b < wr.heap.size := by have := HB1.out.size; omega
      have q0 : Hid (∀ j, j < M → wr.frozen? ⟨w1.heap.size, j, none⟩ = false ∧ ∃ u, wr.cell? ⟨w1.heap.size, j, none⟩ = some u) := fun j hj => ⟨HR.out.1.frozenAt j, ⟨_, (HR.out.1.cellAt j (by omega)).trans (List.getElem?_eq_getElem (by rw [HR.out.1.1]; omega))⟩⟩
      have hPl : Hid (∀ Z p, Below w1.heap.size w1 Z → Calls Try.prog 67 #[.slice A L.length cap, netV VA ca cells free (some ⟨b, off, none⟩) cb W, .slice V1 cells.length c1, .agg #[.int .i64 p.1, .int .i64 p.2]] Z fun e w' => e = .returned (.int .i64 (plcR (pnL L) cells free p)) ∧ Below Z.heap.size Z w') :=
        fun Z p h => rplace A L.length cap L VA (some ⟨b, off, none⟩) V1 ca cb c1 cells.length cells free W p.1 p.2 Z rfl (Lib.hid (HLZ.out Z h)) hs (Lib.hid (HCZ.out Z h)) hc hf rfl (Lib.hid (HVZ.out Z h))
      go_wp2_with fail
      (refine region_tail 9 (by kernel_rfl) (by kernel_rfl) ?_; simp only [List.take_succ_cons, List.take_zero, List.drop_succ_cons, List.drop_zero]; repeat still_step; try refine wpStill_nil ?_)
      go_wp2_with (go_at_call 67; go_loud (refine (hPl.out _ (x0, x1) HB.out.drew).mono ?_); rintro e w6 ⟨rfl, hb6⟩; rw [HR1.out]; have HB6 := Lib.hid (HB.out.drew.trans (hb6.mono HB.out.drew.size))
                   have nb6 := nb.out.below HB6.out
                   have m0 := nb6.c0
                   have m1 := nb6.c1
                   have m2 := nb6.c2
                   have d60 := (hb6.cell (p := ⟨b, off + k * 4, none⟩) (by simpa using hbz)).trans d0
                   have d61 := (hb6.cell (p := ⟨b, off + k * 4 + 1, none⟩) (by simpa using hbz)).trans d1
                   have d62 := (hb6.cell (p := ⟨b, off + k * 4 + 2, none⟩) (by simpa using hbz)).trans d2
                   have d63 := (hb6.cell (p := ⟨b, off + k * 4 + 3, none⟩) (by simpa using hbz)).trans d3
                   have R6 := Lib.hid (HR.out.1.keep (w' := w6) fun b hb => hb6.block b (HR.out.1.lt b hb))
                   clear hb6 nb6)
      (refine region_tail 9 (by kernel_rfl) (by kernel_rfl) ?_; simp only [List.take_succ_cons, List.take_zero, List.drop_succ_cons, List.drop_zero]; repeat still_step; try refine wpStill_nil ?_)
      go_wp2_with (go_at_call 67; refine (hPl.out _ (x2, x3) HB6.out.drew).mono ?_; rintro e w7 ⟨rfl, hb7⟩; rw [HR2.out]; have nb7 := nb.out.below (HB6.out.drew.trans (hb7.mono HB6.out.drew.size))
                   have m70 := nb7.c0
                   have m71 := nb7.c1
                   have m72 := nb7.c2
                   clear nb7
                   have HB7 := Lib.hid (HB6.out.drew.trans (hb7.mono HB6.out.drew.size))
                   have R7 : Hid (Row w7 3 1 (.slice (some ⟨w1.heap.size, 0, none⟩) M M) M (ivals (lkK (pnL L) cells free W k))) := R6.out.keep fun b hb => hb7.block b (R6.out.lt b hb)
                   have s0 : w7.frozen? ⟨w1.heap.size, a, none⟩ = false := R7.out.frozenAt a
                   have s1 : w7.frozen? ⟨w1.heap.size, b2, none⟩ = false := R7.out.frozenAt b2
                   obtain ⟨u1, s2⟩ : ∃ u, w7.cell? ⟨w1.heap.size, a, none⟩ = some u := ⟨_, (R7.out.cellAt a (by omega)).trans (List.getElem?_eq_getElem (by rw [R7.out.1]; omega))⟩
                   obtain ⟨u2, s3⟩ : ∃ u, w7.cell? ⟨w1.heap.size, b2, none⟩ = some u := ⟨_, (R7.out.cellAt b2 (by omega)).trans (List.getElem?_eq_getElem (by rw [R7.out.1]; omega))⟩
                   clear hb7)
      go_roundw
      case rel =>
        have hR8 := (R7.out.set a (.int .i64 (b2 : Int))).set b2 (.int .i64 (a : Int))
        have hB8 := (HB7.out.setCell (p := ⟨w1.heap.size, a, none⟩) (Nat.le_refl _) (.int .i64 (b2 : Int))).setCell (p := ⟨w1.heap.size, b2, none⟩) (Nat.le_refl _) (.int .i64 (a : Int))
        rw [ivals_set, ivals_set, ← HNX.out] at hR8
        exact ⟨k + 1, by go_num, by omega, hR8, hB8⟩
      case measure => simp [intOf]; omega
    · obtain rfl : k = W.length := by omega
      go_wp2
      go_ret
      exact ⟨_, _, rfl, HR.out.1, fun b hb => by simp [ownB] at hb; have := HB1.out.size; omega, HB1.out.trans (HR.out.2.mono HB1.out.size)⟩
end Go.Proofs.Ytcebejcdfdahjaa
