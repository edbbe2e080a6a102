/-
  The document's wiring: Open.
-/
import Derived.Test.YthbobooiedcofaaRWirNew
import Derived.Test.YthbobooiedcofaaWirOpen
/-
  The document's wiring: All.
-/
namespace Go.Proofs.Ythbobooiedcofaa
open Go.RowKit
attribute [local go_sem] cell_set
set_option maxRecDepth 100000
set_option linter.unusedVariables false

theorem portW_info : (Try.prog.info? 39).map (fun i => (i.zero, i.size, i.bytes)) = some (some (.agg #[.int .i64 0, .int .i64 0]), 2, 16) := by kernel_rfl
def ptvals (l : List Pt) : List Value := l.flatMap fun p => [.int .i64 p.1, .int .i64 p.2]
theorem ptvals_snoc (l : List Pt) (p : Pt) : ptvals (l ++ [p]) = ptvals l ++ [.int .i64 p.1, .int .i64 p.2] := by simp [ptvals]
theorem ptvals_at (J : List Pt) (i : Nat) (hi : i < J.length) : (ptvals J)[i * 2]? = some (.int .i64 (J.getD i default).1) ∧ (ptvals J)[i * 2 + 1]? = some (.int .i64 (J.getD i default).2) := by
  unfold ptvals
  induction J generalizing i with
  | nil => simp at hi
  | cons a r ih =>
    cases i with
    | zero => simp
    | succ i =>
      have := ih i (by simpa using hi)
      rw [List.flatMap_cons, show (i + 1) * 2 = 2 + i * 2 by omega]
      constructor
      · rw [List.getElem?_append_right (by simp)]
        simpa using this.1
      · rw [List.getElem?_append_right (by simp; omega)]
        have e : 2 + i * 2 + 1 - [Value.int IntKind.i64 a.1, .int .i64 a.2].length = i * 2 + 1 := by simp; omega
        rw [e]
        simpa using this.2
/-- A list of ports that is being gathered. -/
structure AL (w : World) (l : List Pt) (V : Option Addr) (c : Nat) (W : World) : Prop where
  row : Row W 39 2 (.slice V l.length c) l.length (ptvals l)
  own : ∀ b ∈ ownB (.slice V l.length c), w.heap.size ≤ b
  below : Below w.heap.size w W
theorem AL.app {w W w7 : World} {l : List Pt} {V V5 : Option Addr} {c c5 : Nat} {p : Pt} {o : Obj} (h : AL w l V c W) (k5 : Kp (ownB (.slice V l.length c)) (W.alloc o) w7) (o5 : ownB (.slice V5 (l.length + 1) c5) = ownB (.slice V l.length c) ∨ ownB (.slice V5 (l.length + 1) c5) = [(W.alloc o).heap.size])
    (r5 : Row w7 39 2 (.slice V5 (l.length + 1) c5) (l.length + 1) (ptvals l ++ [.int .i64 p.1, .int .i64 p.2])) : AL w (l ++ [p]) V5 c5 w7 := by
  have hba : Below w.heap.size w (W.alloc o) := h.below.alloc h.below.size _
  refine ⟨?_, fun y hy => ?_, hba.trans (k5.below hba.size (fun y hy => h.own y hy))⟩
  · rw [ptvals_snoc, List.length_append]; exact r5
  · rw [List.length_append] at hy
    rcases o5 with o5 | o5
    · rw [show l.length + [p].length = l.length + 1 from rfl, o5] at hy; exact h.own y hy
    · rw [show l.length + [p].length = l.length + 1 from rfl, o5] at hy
      simp at hy
      have := h.below.size
      omega
theorem ptsK_le {S : Wir} (h : S.Ok) {k : Nat} (hk : k ≤ S.A.cells.length) : (Wir.ptsK S k).length ≤ 64 + 7 * k := by
  have h1 := Wir.cellPts_le 0 (S.A.cells.take k) (fun x hx ag ws e => by
    obtain ⟨i, hi, rfl⟩ := List.mem_iff_getElem.1 (List.mem_of_mem_take hx)
    exact (h.a.cell i ag ws (by rw [List.getElem?_eq_getElem hi, e])).2.2.2.1)
  have h4 := h.p
  unfold Wir.ptsK
  rw [List.length_append, Wir.slotsOf_len]
  rw [List.length_take, Nat.min_eq_left hk] at h1
  omega
/-- What the document's arena holds at a cell's place: how many words. -/
theorem RA.words_at {w : World} {A : Nat} {S : Ars} {FR : List Nat} (h : RA w A S FR) {k : Nat} (hk : k < S.cells.length) : ∃ (g cc : Nat) (D : Option Addr) (m cw : Nat), w.cell? ⟨A, 1, none⟩ = some (.slice (some ⟨g, 0, none⟩) S.cells.length cc) ∧ g < w.heap.size ∧ w.cell? ⟨g, k * 3 + 2, none⟩ = some (.slice D m cw) ∧ m ≤ 7 ∧
    ∀ x, S.cells[k]? = some x → Wir.cellPt1 k x = Wir.slotsOf (k : Int) m := by
  obtain ⟨x, hx⟩ : ∃ x, S.cells[k]? = some x := ⟨_, List.getElem?_eq_getElem hk⟩
  obtain ⟨g, cc, r, k1, hgl, ha, hr, hf, hlt⟩ := h.at_ hx
  have h2 := hr 2 (by omega)
  have hok := h.ok
  cases x with
  | none =>
    cases r with
    | none => exact ⟨g, cc, none, 0, 0, k1, hgl, h2, by omega, fun y hy => by rw [hx] at hy; injection hy with hy; subst hy; rfl⟩
    | some r => exact ha.elim
  | some x =>
    obtain ⟨ag, ws⟩ := x
    cases r with
    | none => exact ha.elim
    | some r =>
      obtain ⟨ag', v⟩ := r
      obtain ⟨V, cw, hv, _⟩ := ha.2.len
      have hc := hok.cell _ _ _ hx
      refine ⟨g, cc, V, ws.length, cw, k1, hgl, ?_, hc.2.2.2.1, fun y hy => by rw [hx] at hy; injection hy with hy; subst hy; rfl⟩
      rw [h2, ← hv]; rfl
section
variable (B A : Nat) (S : Wir) (FA : List Nat) (w : World)
set_option maxHeartbeats 4000000 in
theorem rw_all (h : RG w B A S FA) :
    Calls Try.prog 42 #[.pointer (some ⟨B, 0, none⟩)] w fun e w' => ∃ V c, e = .returned (.slice V S.pts.length c) ∧ AL w S.pts V c w' := by
  have HG := Lib.hid h
  obtain ⟨j0, hj0, hj1, hj2, hj3⟩ := info_parts portW_info
  have hP := h.ok.p
  have hcl := h.ok.a.len
  have hm2 := h.ok.a.most2
  have hpt := Wir.ptsK_zero S
  have H0 : Hid (AL w (Wir.slotsOf (-1) 0) none 0 w) := ⟨Row.nil _ _ _, by simp [ownB], Below.refl _ _⟩
  obtain ⟨f, hf⟩ : ∃ f, S.P.length = f := ⟨_, rfl⟩
  obtain ⟨n, hn⟩ : ∃ n, S.A.cells.length = n := ⟨_, rfl⟩
  rw [hf] at hP
  rw [hn] at hcl
  have HFE := Lib.hid hf
  have HNE := Lib.hid hn
  have HPT := Lib.hid hpt
  clear hpt hf hn
  go_enter Try.func42, Try.ntmps42
  go_wp2_with fail
  go_loopw [3, 4] (fun x i wr => ∃ (k : Nat) (V : Option Addr) (c : Nat), i = .int .i64 k ∧ k ≤ f ∧ x = .slice V k c ∧ Hid (AL w (Wir.slotsOf (-1) k) V c wr)) (fun _ i _ => f - (intOf i).toNat)
  case atStart => exact ⟨0, none, 0, rfl, Nat.zero_le _, rfl, H0⟩
  case round =>
    obtain ⟨k, V, c, rfl, hk, rfl, HL⟩ := hrel
    clear H0
    obtain ⟨c0, VP, cP, c1⟩ := (HG.out.below HL.out.below).cells
    rw [HFE.out] at c1
    by_cases hlt : k < f
    · obtain ⟨l, hl⟩ : ∃ l, Wir.slotsOf (-1) k = l := ⟨_, rfl⟩
      have hll : l.length = k := by rw [← hl, Wir.slotsOf_len]
      have hsn := Wir.slotsOf_succ (-1) k
      rw [hl] at HL hsn
      have HSN := Lib.hid hsn
      subst hll
      clear hl hsn
      have HRw : Hid (Row (wr.alloc (.cells #[.int .i64 (-1), .int .i64 ((l.length : Int))] 39)) 39 2 (.slice V l.length c) l.length (ptvals l)) := HL.out.row.alloc _
      have HSr : Hid (Src (wr.alloc (.cells #[.int .i64 (-1), .int .i64 ((l.length : Int))] 39)) (some ⟨wr.heap.size, 0, none⟩) 1 2 [.int .i64 (-1), .int .i64 ((l.length : Int))]) :=
        Src.block (cs := #[.int .i64 (-1), .int .i64 ((l.length : Int))]) (t := 39) (fr := (0, 0)) (heap_alloc_new wr _) rfl (by simp [Value.oneCell'])
      have hg63 : l.length + 1 ≤ maxLen := by simp only [maxLen]; omega
      have hg47 : (l.length + 1) * 16 ≤ 140737488355328 := by omega
      go_wp2_with (at_builtin; go_loud (refine inPlain rfl (wpo_row_append _ _ _ rfl j0 _ 16 Try.underlying84 hj0 hj1 hj2 hj3 rfl rfl HRw.out _ 1 1 rfl [.int .i64 (-1), .int .i64 ((l.length : Int))] HSr.out hg63 hg47 ?_)); intro sv5 w7 r5 k5 o5; obtain ⟨V5, cp5, rfl, hc5⟩ := r5.len
                   have HA5 := Lib.hid (AL.app (p := ((-1), ((l.length : Int)))) HL.out k5 o5 r5)
                   clear k5 o5 r5)
      go_roundw
      case measure => simp [intOf]; omega
      case rel => exact ⟨l.length + 1, V5, cp5, by go_num, by omega, rfl, by rw [HSN.out]; exact HA5⟩
    · obtain rfl : k = f := by omega
      have HL0 : Hid (AL w (Wir.ptsK S 0) V c wr) := by rw [HPT.out, HFE.out]; exact HL.out
      have hlen0 : k = (Wir.ptsK S 0).length := by rw [HPT.out, HFE.out, Wir.slotsOf_len]
      obtain ⟨P0, FR, _, hra, _⟩ := HG.out.split
      have HRA := Lib.hid hra
      have hAl : A < w.heap.size := hra.lt A (by obtain ⟨_, _, _, _, _, _, _, rfl, _⟩ := hra; simp)
      have hBl := HG.out.lt
      have HB0 := Lib.hid HG.out.cells.1
      have HLEN := Lib.hid hlen0
      clear hra hlen0
      go_wp2_with fail
      clear c0 c1 HL
      go_loopw [3, 5] (fun x i wr => ∃ (q : Nat) (V : Option Addr) (c : Nat), i = .int .i64 q ∧ q ≤ n ∧ x = .slice V (Wir.ptsK S q).length c ∧ Hid (AL w (Wir.ptsK S q) V c wr)) (fun _ i _ => n - (intOf i).toNat)
      case atStart => exact ⟨0, V, c, rfl, Nat.zero_le _, by rw [← HLEN.out], HL0⟩
      case round =>
        obtain ⟨q, V, c, rfl, hq, rfl, HL⟩ := hrel
        clear HL0
        have c0 := (HL.out.below.cell (p := ⟨B, 0, none⟩) hBl).trans HB0.out
        by_cases hqn : q < n
        · obtain ⟨g, cc, D, m, cw, a1, hg, g2, hm7, hpt⟩ := HRA.out.words_at (k := q) (by rw [HNE.out]; exact hqn)
          rw [HNE.out] at a1
          obtain ⟨x, hx⟩ : ∃ x, S.A.cells[q]? = some x := ⟨_, List.getElem?_eq_getElem (by rw [HNE.out]; exact hqn)⟩
          have hsucc := Wir.ptsK_succ S hx
          rw [hpt x hx] at hsucc
          have hle := ptsK_le HG.out.ok (k := q) (by rw [HNE.out]; omega)
          have HA1 := Lib.hid a1
          have HG2 := Lib.hid g2
          have h5 : (q : Int) < (n : Int) := by omega
          have h7 : (0 : Int) ≤ (q : Int) := by omega
          obtain ⟨l0, hl0⟩ : ∃ l, Wir.ptsK S q = l := ⟨_, rfl⟩
          rw [hl0] at hsucc hle HL ⊢
          have HSUC := Lib.hid hsucc
          have HL1 : Hid (AL w (l0 ++ Wir.slotsOf (q : Int) 0) V c wr) := by rw [show l0 ++ Wir.slotsOf (q : Int) 0 = l0 by simp [Wir.slotsOf]]; exact HL.out
          have hlen1 : l0.length = (l0 ++ Wir.slotsOf (q : Int) 0).length := by simp [Wir.slotsOf]
          have HLEN1 := Lib.hid hlen1
          have a1r := (HL.out.below.cell (p := ⟨A, 1, none⟩) hAl).trans a1
          clear a1 g2 hpt hx hsucc hl0 hlen1
          go_wp2_with fail
          clear c0 a1r HL
          go_loopw [3, 6] (fun x i wr => ∃ (s : Nat) (V : Option Addr) (c : Nat), i = .int .i64 s ∧ s ≤ m ∧ x = .slice V (l0 ++ Wir.slotsOf (q : Int) s).length c ∧ Hid (AL w (l0 ++ Wir.slotsOf (q : Int) s) V c wr)) (fun _ i _ => m - (intOf i).toNat)
          case atStart => exact ⟨0, V, c, rfl, Nat.zero_le _, by rw [← HLEN1.out], HL1⟩
          case round =>
            obtain ⟨s, V, c, rfl, hs, rfl, HL⟩ := hrel
            clear HL1
            have c0 := (HL.out.below.cell (p := ⟨B, 0, none⟩) hBl).trans HB0.out
            have a1r := (HL.out.below.cell (p := ⟨A, 1, none⟩) hAl).trans HA1.out
            have g2r := (HL.out.below.cell (p := ⟨g, q * 3 + 2, none⟩) hg).trans HG2.out
            by_cases hsm : s < m
            · obtain ⟨l, hl⟩ : ∃ l, l0 ++ Wir.slotsOf (q : Int) s = l := ⟨_, rfl⟩
              have hll : l.length ≤ 100000 := by rw [← hl, List.length_append, Wir.slotsOf_len]; omega
              have hsn : l0 ++ Wir.slotsOf (q : Int) (s + 1) = l ++ [((q : Int), (s : Int))] := by rw [Wir.slotsOf_succ, ← List.append_assoc, hl]
              rw [hl] at HL ⊢
              have HSN := Lib.hid hsn
              clear hl hsn
              have HRw : Hid (Row (wr.alloc (.cells #[.int .i64 ((q : Int)), .int .i64 ((s : Int))] 39)) 39 2 (.slice V l.length c) l.length (ptvals l)) := HL.out.row.alloc _
              have HSr : Hid (Src (wr.alloc (.cells #[.int .i64 ((q : Int)), .int .i64 ((s : Int))] 39)) (some ⟨wr.heap.size, 0, none⟩) 1 2 [.int .i64 ((q : Int)), .int .i64 ((s : Int))]) :=
                Src.block (cs := #[.int .i64 ((q : Int)), .int .i64 ((s : Int))]) (t := 39) (fr := (0, 0)) (heap_alloc_new wr _) rfl (by simp [Value.oneCell'])
              have hg63 : l.length + 1 ≤ maxLen := by simp only [maxLen]; omega
              have hg47 : (l.length + 1) * 16 ≤ 140737488355328 := by omega
              go_wp2_with (at_builtin; go_loud (refine inPlain rfl (wpo_row_append _ _ _ rfl j0 _ 16 Try.underlying84 hj0 hj1 hj2 hj3 rfl rfl HRw.out _ 1 1 rfl [.int .i64 ((q : Int)), .int .i64 ((s : Int))] HSr.out hg63 hg47 ?_)); intro sv5 w7 r5 k5 o5; obtain ⟨V5, cp5, rfl, hc5⟩ := r5.len
                           have HA5 := Lib.hid (AL.app (p := (((q : Int)), ((s : Int)))) HL.out k5 o5 r5)
                           clear k5 o5 r5)
              go_roundw
              case measure => simp [intOf]; omega
              case rel => exact ⟨s + 1, V5, cp5, by go_num, by omega, by rw [HSN.out, List.length_append]; rfl, by rw [HSN.out]; exact HA5⟩
            · obtain rfl : s = m := by omega
              rw [← HSUC.out] at HL ⊢
              have hwL := HL
              clear HL
              go_wp2_with fail
              go_roundw
              case measure => simp [intOf]; omega
              case rel => exact ⟨q + 1, V, c, by go_num, by omega, rfl, hwL⟩
        · obtain rfl : q = n := by omega
          have hpa : Wir.ptsK S q = S.pts := by rw [← HNE.out]; exact Wir.ptsK_all S
          rw [hpa] at HL ⊢
          obtain ⟨P1, FR1, _, hra1, _⟩ := (HG.out.below HL.out.below).split
          obtain ⟨VC, VB, cc, cb, k0, k1, _⟩ := hra1.head
          rw [HNE.out] at k1
          clear hra1
          go_wp2_with fail
          go_ret
          exact ⟨V, c, rfl, HL.out⟩
end
end Go.Proofs.Ythbobooiedcofaa
namespace Go.Proofs.Ythbobooiedcofaa
open Go.RowKit
attribute [local go_sem] cell_set
set_option maxRecDepth 100000
set_option linter.unusedVariables false

/-- A list of ports in memory. -/
def PtR (w : World) (A : Option Addr) (P : List Pt) : Prop := ∀ i, i < P.length → ∃ b, A = some ⟨b, 0, none⟩ ∧ b < w.heap.size ∧ w.cell? ⟨b, i * 2, none⟩ = some (.int .i64 (P.getD i default).1) ∧ w.cell? ⟨b, i * 2 + 1, none⟩ = some (.int .i64 (P.getD i default).2)
theorem PtR.below {w w' : World} {A : Option Addr} {P : List Pt} (h : PtR w A P) (hb : Below w.heap.size w w') : PtR w' A P := fun i hi => by
  obtain ⟨b, e, hl, h0, h1⟩ := h i hi
  exact ⟨b, e, Nat.lt_of_lt_of_le hl hb.size, (hb.cell (p := ⟨b, _, none⟩) hl).trans h0, (hb.cell (p := ⟨b, _, none⟩) hl).trans h1⟩
theorem AL.rd {w W : World} {l : List Pt} {V : Option Addr} {c : Nat} (h : AL w l V c W) : PtR W V l := fun i hi => by
  obtain ⟨g, c', cur, e, hg, _⟩ := h.row.some_ (by omega)
  simp only [Value.slice.injEq, true_and] at e
  obtain ⟨rfl, rfl⟩ := e
  obtain ⟨a0, a1⟩ := ptvals_at l i hi
  exact ⟨g, rfl, heap_lt hg, (h.row.cellAt _ (by omega)).trans a0, (h.row.cellAt _ (by omega)).trans a1⟩
section
variable (B A : Nat) (S : Wir) (FA : List Nat) (w : World)
end
end Go.Proofs.Ythbobooiedcofaa
