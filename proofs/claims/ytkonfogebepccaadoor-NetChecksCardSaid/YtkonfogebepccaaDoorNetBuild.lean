/-
  Contract of net.build: a tidy net.
-/
import Derived.Test.YtkonfogebepccaaDoorNetLinks
namespace Go.Proofs.YtkonfogebepccaaDoor
open Go.RowKit Go.Shelf
attribute [local go_sem] cell_set
attribute [local go_sem] Oper.semAt_some
set_option maxRecDepth 100000
set_option linter.unusedVariables false

/-- append in a round. -/
theorem wpListIn_row_append {F : Fence} {fn : Nat} {P : Program} {w : World} {ops : Array Oper} {rest : List Oper} {o : Oper} {a : Act} {Q : Exit → Act → World → Prop} (hgd : o.guard = none)
    (s x : Operand) (t : TypeId) (ho : o.op = .call { callee := .builtin .append, args := #[s, x], argTypes := #[t, t] })
    {e : TypeId} {size n : Nat} {v : Value} {xs : List Value} (i : TypeInfo) (z : Value) (bytes : Nat) (ht : P.underlying t = some (.slice e)) (hi : P.info? e = some i) (hz : i.zero = some z)
    (hsize : i.size = size) (hby : i.bytes = bytes) (hzs : z.cells.size = size)
    (hs : a.eval s = v) (h : Row w e size v n xs) (A : Option Addr) (m c : Nat) (hx : a.eval x = .slice A m c) (news : List Value) (hsrc : Src w A m size news)
    (h63 : n + m ≤ maxLen) (hbytes : (n + m) * bytes ≤ 140737488355328)
    (hk : ∀ v' w', Row w' e size v' (n + m) (xs ++ news) → Kp (ownB v) w w' → (ownB v' = ownB v ∨ ownB v' = [w.heap.size]) → wpListIn F fn P ops Q rest (a.put o.dst v') w') : wpListIn F fn P ops Q (o :: rest) a w := by
  refine wpListIn_plain hgd fun K hK' => ?_
  obtain ⟨v', w', hr, h2, h3, h4⟩ := Row.append (P := P) t o.type i z bytes ht hi hz hsize hby hzs h A m c news hsrc h63 hbytes
  unfold Oper.wpIn
  refine ⟨?_, ?_⟩
  · simp [Oper.about, ho, resolve, Target.leads, Sem.run_pure]
  · rw [Oper.semAt_plain F _ _ (by rw [ho]; intro c hc'; cases hc')]
    simp [execOp, ho, resolve, invoke, builtin, hs, hx, hr, Result.andThen]
    exact hK' _ _ (hk v' w' h2 h3 h4)
/-- A net in fresh memory. -/
def NetFresh (w w' : World) (V1 : Option Addr) (c1 : Nat) (cells : List Int) (V2 : Option Addr) (c2 : Nat) (W : List (Pt × Pt)) : Prop :=
  Fresh w w' 3 1 cells.length (.slice V1 cells.length c1) (ivals cells) ∧ Fresh w w' 108 4 W.length (.slice V2 W.length c2) (wrvals W)
def tidyF (P : List Pt) (lk : Pt → Option Pt) : List (Pt × Pt) := P.filterMap fun p => match lk p with
  | some q => if bef p q then some (p, q) else none
  | none => none
/-- .. with a partner for everything. -/
def lkT (lk : Pt → Option Pt) (p : Pt) : Pt := (lk p).getD (0, 0)
def tidyG (P : List Pt) (lk : Pt → Option Pt) : List (Pt × Pt) := P.filterMap fun p => if bef p (lkT lk p) then some (p, lkT lk p) else none
theorem tidyG_snoc (P : List Pt) (p : Pt) (lk : Pt → Option Pt) : tidyG (P ++ [p]) lk = tidyG P lk ++ (if bef p (lkT lk p) then [(p, lkT lk p)] else []) := by
  unfold tidyG
  rw [List.filterMap_append]
  congr 1
  rw [List.filterMap_cons]
  by_cases hb : bef p (lkT lk p) <;> simp [hb]
theorem tidyG_len (P : List Pt) (lk : Pt → Option Pt) : (tidyG P lk).length ≤ P.length := List.length_filterMap_le _ _
theorem tidyG_F {P : List Pt} {lk : Pt → Option Pt} (h : ∀ p ∈ P, ∃ q, lk p = some q) : tidyG P lk = tidyF P lk := by
  unfold tidyG tidyF
  refine filterMap_congr' fun p hp => ?_
  obtain ⟨q, hq⟩ := h p hp
  simp [lkT, hq]
theorem numd_snd (P : List Pt) : (numd P).map Prod.snd = P := by
  refine List.ext_getElem? fun i => ?_
  simp [numd]
  cases P[i]? <;> rfl
theorem wrvals_snoc (W : List (Pt × Pt)) (p q : Pt) : wrvals (W ++ [(p, q)]) = wrvals W ++ [.int .i64 p.1, .int .i64 p.2, .int .i64 q.1, .int .i64 q.2] := by simp [wrvals]
/-- What the loop keeps: a net in a box, its wires in memory of the loop's own; nothing else has turned. -/
def BI (w0 : World) (Bn : Nat) (V1 : Option Addr) (c1 n1 : Nat) (free : Int) (ws : List (Pt × Pt)) (X : World) : Prop :=
  Kp [Bn] w0 X ∧ Bn < w0.heap.size ∧ ∃ V2 c2, X.heap[Bn]? = some (.cells #[.slice V1 n1 c1, .int .i64 free, .slice V2 ws.length c2] 64 (0, 0)) ∧ Row X 108 4 (.slice V2 ws.length c2) ws.length (wrvals ws) ∧ ∀ b ∈ ownB (.slice V2 ws.length c2), w0.heap.size ≤ b
section
variable {w0 X X' : World} {Bn : Nat} {V1 : Option Addr} {c1 n1 : Nat} {free : Int} {ws : List (Pt × Pt)}
theorem BI.keep (h : BI w0 Bn V1 c1 n1 free ws X) (hk : Kp [] X X') : BI w0 Bn V1 c1 n1 free ws X' := by
  obtain ⟨h1, h2, V2, c2, h3, h4, h5⟩ := h
  exact ⟨h1.trans hk (by simp), h2, V2, c2, (hk.block Bn (heap_lt h3) (by simp)).trans h3, h4.kp hk (by simp), h5⟩
theorem BI.grown (h : BI w0 Bn V1 c1 n1 free ws X) {row : Option Nat} (hg : X.grownBy X' row) (hr : ∀ r, row = some r → w0.heap.size ≤ r ∧ ∃ o : Obj, X.heap[r]? = some o ∧ o.isCells = false) : BI w0 Bn V1 c1 n1 free ws X' := by
  obtain ⟨h1, h2, V2, c2, h3, h4, h5⟩ := h
  have hr2 : ∀ r, row = some r → ∃ o : Obj, X.heap[r]? = some o ∧ o.isCells = false := fun r e => (hr r e).2
  refine ⟨?_, h2, V2, c2, (grownBy_keeps_cells hg hr2 h3 rfl).trans h3, h4.keep fun b hb => ?_, h5⟩
  · cases row with
    | none => exact h1.trans (G := []) ⟨hg.os, hg.tape, hg.output, hg.size, fun b hb _ => hg.block b hb (by simp)⟩ (by simp)
    | some r => exact h1.trans (G := [r]) ⟨hg.os, hg.tape, hg.output, hg.size, fun b hb hn => hg.block b hb (by simpa using hn)⟩ (fun b hb => by simp at hb; subst hb; exact .inr (hr b rfl).1)
  · rcases h4.2 with ⟨e, _⟩ | ⟨g, cap, cur, e, hh, _⟩
    · rw [e] at hb; simp [ownB] at hb
    · rw [e] at hb; simp [ownB] at hb; subst hb
      exact grownBy_keeps_cells hg hr2 hh rfl
theorem BI.cells (h : BI w0 Bn V1 c1 n1 free ws X) : X.cell? ⟨Bn, 0, none⟩ = some (.slice V1 n1 c1) ∧ X.cell? ⟨Bn, 1, none⟩ = some (.int .i64 free) ∧ X.frozen? ⟨Bn, 2, none⟩ = false := by
  obtain ⟨_, _, V2, c2, h3, _⟩ := h
  simp [World.cell?, World.frozen?, h3]
/-- One more wire. -/
theorem BI.app {V2 : Option Addr} {c2 : Nat} (h1 : Kp [Bn] w0 X) (h2 : Bn < w0.heap.size) (h3 : X.heap[Bn]? = some (.cells #[.slice V1 n1 c1, .int .i64 free, .slice V2 ws.length c2] 64 (0, 0)))
    (h5 : ∀ b ∈ ownB (.slice V2 ws.length c2), w0.heap.size ≤ b) {V5 : Option Addr} {c5 : Nat} {w5 : World} {p q : Pt}
    (k5 : Kp (ownB (.slice V2 ws.length c2)) X w5) (o5 : ownB (.slice V5 (ws.length + 1) c5) = ownB (.slice V2 ws.length c2) ∨ ownB (.slice V5 (ws.length + 1) c5) = [X.heap.size])
    (r5 : Row w5 108 4 (.slice V5 (ws.length + 1) c5) (ws.length + 1) (wrvals ws ++ [.int .i64 p.1, .int .i64 p.2, .int .i64 q.1, .int .i64 q.2])) :
    w5.cell? ⟨Bn, 2, none⟩ = some (.slice V2 ws.length c2) ∧ w5.frozen? ⟨Bn, 2, none⟩ = false ∧ Kp [Bn] w0 (w5.setCell ⟨Bn, 2, none⟩ (.slice V5 (ws.length + 1) c5)) ∧ BI w0 Bn V1 c1 n1 free (ws ++ [(p, q)]) (w5.setCell ⟨Bn, 2, none⟩ (.slice V5 (ws.length + 1) c5)) := by
  have hn : Bn ∉ ownB (.slice V2 ws.length c2) := fun hb => absurd (h5 _ hb) (by omega)
  have e3 : w5.heap[Bn]? = some (.cells #[.slice V1 n1 c1, .int .i64 free, .slice V2 ws.length c2] 64 (0, 0)) := (k5.block Bn (heap_lt h3) hn).trans h3
  have hz := h1.size
  have h5' : ∀ b ∈ ownB (.slice V5 (ws.length + 1) c5), w0.heap.size ≤ b := fun b hb => by
    rcases o5 with e | e
    · exact h5 b (e ▸ hb)
    · rw [e] at hb; simp at hb; omega
  have hk : Kp [Bn] w0 (w5.setCell ⟨Bn, 2, none⟩ (.slice V5 (ws.length + 1) c5)) := (h1.trans k5 (fun b hb => .inr (h5 b hb))).setCell (p := ⟨Bn, 2, none⟩) (.inl (by simp)) _
  refine ⟨by simp [World.cell?, e3], by simp [World.frozen?, e3], hk, hk, h2, V5, c5, ?_, ?_, ?_⟩
  · rw [List.length_append]
    simp [World.setCell, Array.getElem?_modify, e3]
  · rw [wrvals_snoc, List.length_append]
    exact r5.keep fun b hb => Below.heap_setCell w5 _ _ b (by
      have := h5' b hb
      show b ≠ Bn
      omega)
  · rw [List.length_append]; exact h5'
end
theorem KeepsFrom.below {B : Nat} {W W' : World} (h : Below W.heap.size W W') : KeepsFrom B W W' := ⟨h.size, fun k o _ hk _ => (h.block k (heap_lt hk)).trans hk⟩
theorem KeepsFrom.kp_row {B : Nat} {W W' : World} {e : TypeId} {size n : Nat} {v : Value} {xs : List Value} (hr : Row W e size v n xs) (h : Kp (ownB v) W W') : KeepsFrom B W W' :=
  ⟨h.size, fun k o _ hk ho => (h.block k (heap_lt hk) (fun hb => by
    rcases hr.2 with ⟨e, _⟩ | ⟨g, cap, cur, e, hh, _⟩
    · rw [e] at hb; simp [ownB] at hb
    · rw [e] at hb; simp [ownB] at hb; subst hb
      rw [hh] at hk; cases hk; cases ho)).trans hk⟩
def actB (a : Act) (x : Nat × Pt) (b : Nat) : Act := { tmps := ((a.tmps.setIfInBounds 21 (.int .i64 (x.1 : Int))).setIfInBounds 22 (.agg #[.int .i64 x.2.1, .int .i64 x.2.2])).setIfInBounds 11 (.pointer (some ⟨b, 0, none⟩)), defers := [] }

set_option maxHeartbeats 2000000 in
theorem net_build (A : Option Addr) (n cap : Nat) (L : List (ByteArray × Int)) (VC : Option Addr) (cc nc : Nat) (cells : List Int) (free m : Nat) (lk : Pt → Option Pt) (w : World) (hn : n = L.length) (hnc : nc = cells.length) (HL : Hid (AgRd w A L)) (hs : SigOk L) (hpos : 0 < L.length) (HC : Hid (IntsRd w VC cells)) (hc : cells.length ≤ 5000) (hf : free ≤ 100)
    (hm : Hid (MP encPt w m fun p => (lk p).map encPt)) (hlk : ∀ p ∈ allPs (pnL L) cells free, ∃ q, lk p = some q) :
    Calls Tryd.prog 77 #[.slice A n cap, .slice VC nc cc, .int .i64 (free : Int), .map (some m)] w fun e w' => ∃ V1 c1 V2 c2, e = .returned (netV V1 c1 cells free V2 c2 (tidyF (allPs (pnL L) cells free) lk)) ∧ NetFresh w w' V1 c1 cells V2 c2 (tidyF (allPs (pnL L) cells free) lk) := by
  subst hn hnc
  have hll := hs.len
  obtain ⟨i0, hi0, hi1, hi2, hi3⟩ := info_parts int_info
  obtain ⟨j0, hj0, hj1, hj2, hj3⟩ := info_parts wire_info
  refine (callsIn_wide (n := 5)).1 (callsIn_of_wp_marks Tryd.func77 rfl trivial (wpIn_wide.2 ?_) rfl)
  simp only [Tryd.ntmps77, List.size_toArray, List.length_cons, List.length_nil, Nat.reduceAdd, Nat.reduceSub, Array.replicate_succ, Array.replicate_zero, List.push_toArray, List.append_toArray, List.nil_append, List.cons_append]
  have HLK := Lib.hid hlk
  clear hlk
  have hB0 : Below w.heap.size w (((w.alloc (.cells #[.map (some m)] 122)).alloc (.cells #[.slice none 0 0, .int .i64 0, .slice none 0 0] 64)).alloc (.cells #[] 3)) := by (repeat (first | exact Below.refl _ _ | (with_reducible refine Below.drew ?_) | (with_reducible refine Below.alloc ?_ (by (try simp); (try omega)) _) | (with_reducible refine Below.setCell ?_ (by (try simp); (try omega)) _) | (with_reducible refine Below.trans ?_ (Below.mono (by assumption) (by (try simp); (try omega))))))
  have HSrc := Lib.hid (HC.out.below hB0).src
  have HRow : Hid (Row (((w.alloc (.cells #[.map (some m)] 122)).alloc (.cells #[.slice none 0 0, .int .i64 0, .slice none 0 0] 64)).alloc (.cells #[] 3)) 3 1 (.slice (some ⟨w.heap.size + 1 + 1, 0, none⟩) 0 0) 0 []) :=
    ⟨by simp, .inr ⟨w.heap.size + 1 + 1, 0, #[], rfl, by have := heap_alloc_new ((w.alloc (.cells #[.map (some m)] 122)).alloc (.cells #[.slice none 0 0, .int .i64 0, .slice none 0 0] 64)) (.cells #[] 3); simpa using this, Nat.le_refl _, by simp [maxLen], by simp, by simp⟩⟩
  have HB63 : 0 + cells.length ≤ maxLen := by simp only [maxLen]; omega
  have HB47 : (0 + cells.length) * 8 ≤ 140737488355328 := by omega
  have HB0 := Lib.hid hB0
  clear hB0
  go_wp2_with (at_builtin; go_loud (refine inPlain rfl (wpo_row_append _ _ _ rfl i0 _ 8 Tryd.underlying61 hi0 hi1 hi2 hi3 rfl rfl HRow.out _ cells.length _ rfl (ivals cells) HSrc.out HB63 HB47 ?_)); intro sv5 w5 r5 k5 o5; rw [Nat.zero_add, List.nil_append] at r5; obtain ⟨V1, c1, rfl, hc1⟩ := r5.len
               change Kp [w.heap.size + 1 + 1] _ w5 at k5
               change _ = [w.heap.size + 1 + 1] ∨ _ at o5
               have hz5 := k5.size
               go_loud (have q0 : w5.cell? ⟨w.heap.size, 0, none⟩ = some (.map (some m)) := (k5.cell (p := ⟨w.heap.size, 0, none⟩) (by simp <;> omega) (by simp <;> omega)).trans (by go_simp))
               go_loud (have q1 : w5.heap[w.heap.size + 1]? = some (.cells #[.slice none 0 0, .int .i64 0, .slice none 0 0] 64 (0, 0)) := (k5.block (w.heap.size + 1) (by simp <;> omega) (by simp <;> omega)).trans (by
                 rw [Below.heap_alloc _ _ _ (by simp)]
                 have := heap_alloc_new (w.alloc (.cells #[.map (some m)] 122)) (.cells #[.slice none 0 0, .int .i64 0, .slice none 0 0] 64)
                 simpa using this))
               have HK5 := Lib.hid (And.intro k5 (And.intro r5 (And.intro o5 q1)))
               have HQ0 := Lib.hid q0
               clear k5 r5 o5 q1)
  have hz5 := HK5.out.1.size
  simp only [World.size_alloc] at hz5
  have HO : Hid (∀ b ∈ ownB (.slice V1 cells.length c1), w.heap.size + 2 ≤ b) := fun b hb => by
    rcases HK5.out.2.2.1 with e | e
    · rw [e] at hb; simp at hb; omega
    · rw [e] at hb; simp at hb; omega
  have HB5 : Hid (Below w.heap.size w w5) := HB0.out.trans (HK5.out.1.below HB0.out.size (by intro x hx; simp at hx; omega))
  have HR5 := Lib.hid HK5.out.2.1
  have HQ1 := Lib.hid HK5.out.2.2.2
  have HQn : Hid (∀ y ∈ pQ (w5.heap.size + 1 + 1) (w5.heap.size + 1) A V1 cells, y ≠ w5.heap.size) := fun y hy => by
    simp only [pQ, List.mem_cons, List.mem_append] at hy
    rcases hy with rfl | rfl | hy | hy
    · omega
    · omega
    · obtain ⟨b', off, rfl, hlt, _⟩ := HL.out 0 hpos
      simp [ablk] at hy; omega
    · unfold ablkL at hy
      by_cases h0 : cells.length = 0
      · rw [if_pos h0] at hy; simp at hy
      · rw [if_neg h0] at hy
        have := HR5.out.lt y (by
          cases V1 with
          | none => simp [ablk] at hy
          | some a => simpa [ablk, ownB] using hy)
        omega
  have HO2 : Hid (∀ b ∈ ownB (.slice V1 cells.length c1), w.heap.size + 2 ≤ b ∧ b < w5.heap.size) := fun b hb => ⟨HO.out b hb, HR5.out.lt b hb⟩
  clear HK5 HB0 HRow HSrc
  have hb6 : ∀ o : Obj, Below w5.heap.size w5 (w5.alloc o) := fun o => (Below.refl _ _).alloc (Nat.le_refl _) o
  have HCp : Hid (IntsRd (w5.alloc (.cells #[.slice V1 cells.length c1, .int .i64 (free : Int), .slice none 0 0] 64)) V1 cells) := (HR5.out.alloc _).ints
  have HLp : Hid (AgRd (w5.alloc (.cells #[.slice V1 cells.length c1, .int .i64 (free : Int), .slice none 0 0] 64)) A L) := (HL.out.below HB5.out).below (hb6 _)
  have hBnx : (w5.alloc (.cells #[.slice V1 cells.length c1, .int .i64 (free : Int), .slice none 0 0] 64)).heap[w5.heap.size]? = some (.cells #[.slice V1 cells.length c1, .int .i64 (free : Int), .slice none 0 0] 64 (0, 0)) := heap_alloc_new _ _
  have HBnx := Lib.hid hBnx
  clear hBnx q0
  refine (net_ports A _ cap V1 none c1 0 cells free [] L _ rfl HCp HLp).mono ?_
  rintro e w2 ⟨rfl, hps, hb2⟩
  have hz2 := hb2.size
  simp only [World.size_alloc] at hz2
  simp only [World.size_alloc, List.length_nil] at hps
  have HB2 : Hid (Below w.heap.size w w2) := HB5.out.trans (((hb6 _).trans (hb2.mono (by simp))).mono HB5.out.size)
  have HR2 : Hid (Row w2 3 1 (.slice V1 cells.length c1) cells.length (ivals cells)) := HR5.out.keep fun b hb => ((hb2.block b (by have := HR5.out.lt b hb; simp; omega)).trans (Below.heap_alloc _ _ b (HR5.out.lt b hb)))
  have HQ2 : Hid (w2.heap[w.heap.size + 1]? = some (.cells #[.slice none 0 0, .int .i64 0, .slice none 0 0] 64 (0, 0))) := ((hb2.block _ (by simp; omega)).trans (Below.heap_alloc _ _ _ (by omega))).trans HQ1.out
  have HM2 : Hid (MP encPt w2 m fun p => (lk p).map encPt) := hm.out.keep (HB2.out.block m hm.out.lt)
  have hml := hm.out.lt
  have HBI : Hid (BI w2 w5.heap.size V1 c1 cells.length (free : Int) [] w2) := ⟨Kp.refl _ _, by omega, none, 0, (hb2.block _ (by simp)).trans HBnx.out, Row.nil _ _ _, by simp [ownB]⟩
  have HV0 : Hid (w2.cell? ⟨w.heap.size, 0, none⟩ = some (.map (some m))) := by
    have e1 : w2.heap[w.heap.size]? = w5.heap[w.heap.size]? := (hb2.block _ (by simp; omega)).trans (Below.heap_alloc _ _ _ (by omega))
    exact (World.cell?_of_block e1).trans HQ0.out
  have HPS := Lib.hid hps
  clear hb2 HCp HLp HBnx HR5 HQ1 HB5
  have hQl := pQ_lt HPS.out hpos
  have HQl := Lib.hid hQl
  clear hQl
  go_wp2_with fail
  refine rfb rfl (enters_of Tryd.func99 (by kernel_rfl) rfl) (ports_seq 4 _ _ A cap L V1 none c1 0 cells free 0 hs hc hf _ HPS.out) HQl.out (fun _ => rfl)
    (fun pre X => BI w2 w5.heap.size V1 c1 cells.length (free : Int) (tidyG (pre.map Prod.snd) lk) X) (fun c pre X => False)
    (fun s X X' row h hg hr => h.grown hg hr) (fun c s X X' row h hg hr => h)
    HBI.out (fun x => .cells #[.int .i64 x.2.1, .int .i64 x.2.2] 83) actB ?assign ?body ?done ?stop
  case assign =>
    intro l x X K hK
    unfold encP
    gi_wp2
    simpa [actB] using hK
  case stop => exact fun D c pre X hD hpre h => h.elim
  case body =>
    rintro l pre x b X hbi hlen hb hbx
    obtain ⟨i, p0, p1⟩ := x
    have b0 : X.cell? ⟨b, 0, none⟩ = some (.int .i64 p0) := by simp [World.cell?, hbx]
    have b1 : X.cell? ⟨b, 1, none⟩ = some (.int .i64 p1) := by simp [World.cell?, hbx]
    have hbX := heap_lt hbx
    have HBx := Lib.hid hbi
    have hk := hbi.1
    have v0 : X.cell? ⟨w.heap.size, 0, none⟩ = some (.map (some m)) := (hk.cell (p := ⟨w.heap.size, 0, none⟩) (by show w.heap.size < _; omega) (by simp; omega)).trans HV0.out
    have lk0 := (HM2.out.keep (hk.block m (by omega) (by simp; omega))).lookup kport Tryd.underlying122 zport (p0, p1) false
    have hq : ((lk (p0, p1)).map encPt).getD (encPt (0, 0)) = encPt (lkT lk (p0, p1)) := by unfold lkT; cases lk (p0, p1) <;> rfl
    simp only [Bool.false_eq_true, if_false] at lk0
    rw [hq] at lk0
    have hsn : tidyG ((pre ++ [(i, p0, p1)]).map Prod.snd) lk = tidyG (pre.map Prod.snd) lk ++ (if bef (p0, p1) (lkT lk (p0, p1)) then [((p0, p1), lkT lk (p0, p1))] else []) := by rw [List.map_append, List.map_cons, List.map_nil, tidyG_snoc]
    have hln : (tidyG (pre.map Prod.snd) lk).length ≤ 40000 := by
      have h1 := tidyG_len (pre.map Prod.snd) lk
      have h2 : (allPs (pnL L) cells free).length ≤ free + 7 * cells.length := by rw [allPs_len]; exact firstN_le (pnL_le hs) cells free cells.length
      rw [List.length_map] at h1
      omega
    generalize lkT lk (p0, p1) = q at lk0 hsn
    generalize tidyG (pre.map Prod.snd) lk = ws at hsn hln HBx
    obtain ⟨q0, q1⟩ := q
    have HSn := Lib.hid hsn
    have hbB : w.heap.size ≤ b := by omega
    clear hsn hq hbi hk hbx hlen
    simp only [encPt] at lk0
    simp only [actB]
    cases hbf : bef (p0, p1) (q0, q1)
    · have HF := Lib.hid hbf
      clear hbf
      gi_wp2_with fail
      refine ⟨trivial, CallsIn.inRound l (callsIn_wide.2 ((before_is _ _ _ _ _).mono ?_))⟩
      rintro e w6 ⟨rfl, hb6⟩
      rw [HF.out]
      have HB6 : Hid (Below X.heap.size X w6) := ((Below.refl _ _).alloc (Nat.le_refl _) _).trans (hb6.mono (by simp))
      clear hb6 v0 lk0 b0 b1
      gi_wp2
      refine ⟨KeepsFrom.below HB6.out, KQ.below HB6.out (fun y hy => by have := HQl.out y hy; have := HBx.out.1.size; omega), ?_⟩
      show BI _ _ _ _ _ _ (tidyG ((pre ++ [(i, p0, p1)]).map Prod.snd) lk) _
      rw [HSn.out, HF.out]
      simpa using HBx.out.keep (Kp.of_below HB6.out)
    · have HF := Lib.hid hbf
      clear hbf
      gi_wp2_with fail
      refine ⟨trivial, CallsIn.inRound l (callsIn_wide.2 ((before_is _ _ _ _ _).mono ?_))⟩
      rintro e w6 ⟨rfl, hb6⟩
      rw [HF.out]
      have HB6 : Hid (Below X.heap.size X w6) := ((Below.refl _ _).alloc (Nat.le_refl _) _).trans (hb6.mono (by simp))
      have c0 : w6.cell? ⟨X.heap.size, 0, none⟩ = some (.int .i64 q0) := (hb6.cell (p := ⟨X.heap.size, 0, none⟩) (by simp)).trans (by go_simp)
      have c1' : w6.cell? ⟨X.heap.size, 1, none⟩ = some (.int .i64 q1) := (hb6.cell (p := ⟨X.heap.size, 1, none⟩) (by simp)).trans (by go_simp)
      have hz6 := hb6.size
      simp only [World.size_alloc] at hz6
      have d0 := (HB6.out.cell (p := ⟨b, 0, none⟩) hbX).trans b0
      have d1 := (HB6.out.cell (p := ⟨b, 1, none⟩) hbX).trans b1
      obtain ⟨k6, hBn, V2, c2, hh, hrow, hown⟩ := HBx.out.keep (Kp.of_below HB6.out)
      have n2 : w6.cell? ⟨w5.heap.size, 2, none⟩ = some (.slice V2 ws.length c2) := by simp [World.cell?, hh]
      have HRw : Hid (Row (w6.alloc (.cells #[.int .i64 p0, .int .i64 p1, .int .i64 q0, .int .i64 q1] 108)) 108 4 (.slice V2 ws.length c2) ws.length (wrvals ws)) := hrow.alloc _
      have HSr : Hid (Src (w6.alloc (.cells #[.int .i64 p0, .int .i64 p1, .int .i64 q0, .int .i64 q1] 108)) (some ⟨w6.heap.size, 0, none⟩) 1 4 [.int .i64 p0, .int .i64 p1, .int .i64 q0, .int .i64 q1]) :=
        Src.block (cs := #[.int .i64 p0, .int .i64 p1, .int .i64 q0, .int .i64 q1]) (t := 108) (fr := (0, 0)) (heap_alloc_new w6 _) rfl (by simp [Value.oneCell'])
      have HH6 := Lib.hid (And.intro (k6.alloc (.cells #[.int .i64 p0, .int .i64 p1, .int .i64 q0, .int .i64 q1] 108)) (And.intro hBn (And.intro ((Below.heap_alloc w6 (.cells #[.int .i64 p0, .int .i64 p1, .int .i64 q0, .int .i64 q1] 108) _ (heap_lt hh)).trans hh) hown)))
      have hg63 : ws.length + 1 ≤ maxLen := by simp only [maxLen]; omega
      have hg47 : (ws.length + 1) * 32 ≤ 140737488355328 := by omega
      have hBz : w5.heap.size < w6.heap.size := heap_lt hh
      clear hb6 v0 lk0 b0 b1 k6 hh hrow hown
      gi_wp2_with (gi_at_builtin; go_loud (refine wpListIn_row_append rfl _ _ _ rfl j0 _ 32 Tryd.underlying62 hj0 hj1 hj2 hj3 rfl rfl HRw.out _ 1 1 rfl [.int .i64 p0, .int .i64 p1, .int .i64 q0, .int .i64 q1] HSr.out hg63 hg47 ?_); intro sv5 w7 r5 k5 o5; obtain ⟨V5, cp5, rfl, hc5⟩ := r5.len
                   go_loud (have A5 := BI.app HH6.out.1 HH6.out.2.1 HH6.out.2.2.1 HH6.out.2.2.2 (p := (p0, p1)) (q := (q0, q1)) k5 o5 r5)
                   have z2 := A5.1
                   have z3 := A5.2.1
                   have HA5 := Lib.hid A5.2.2
                   have HK5 : Hid (Kp (ownB (.slice V2 ws.length c2)) (w6.alloc (.cells #[.int .i64 p0, .int .i64 p1, .int .i64 q0, .int .i64 q1] 108)) w7) := k5
                   clear A5 k5 o5 r5)
      refine ⟨((KeepsFrom.below HB6.out).trans (KeepsFrom.below ((Below.refl _ _).alloc (Nat.le_refl _) _))).trans ((KeepsFrom.kp_row HRw.out HK5.out).trans ((KeepsOthers.setCell _ _ _).from _)), ⟨by have := HK5.out.size; simp at this ⊢; omega, fun y hy => ?_⟩, ?_⟩
      · have h1 := HQl.out y hy
        have h2 := HQn.out y hy
        exact (HA5.out.1.block y h1 (by simpa using h2)).trans (HBx.out.1.block y h1 (by simpa using h2)).symm
      · show BI _ _ _ _ _ _ (tidyG ((pre ++ [(i, p0, p1)]).map Prod.snd) lk) _
        rw [HSn.out, HF.out]
        simpa using HA5.out.2
  case done =>
    rintro D xs X hD rfl hbi hK
    rw [numd_snd, tidyG_F HLK.out] at hbi
    obtain ⟨hk, hBn, V2, c2, hh, hrow, hown⟩ := hbi
    have c0 : X.cell? ⟨w5.heap.size, 0, none⟩ = some (.slice V1 cells.length c1) := by simp [World.cell?, hh]
    have c1' : X.cell? ⟨w5.heap.size, 1, none⟩ = some (.int .i64 (free : Int)) := by simp [World.cell?, hh]
    have c2' : X.cell? ⟨w5.heap.size, 2, none⟩ = some (.slice V2 (tidyF (allPs (pnL L) cells free) lk).length c2) := by simp [World.cell?, hh]
    have hq : X.heap[w.heap.size + 1]? = some (.cells #[.slice none 0 0, .int .i64 0, .slice none 0 0] 64 (0, 0)) := (hk.block _ (by omega) (by simp; omega)).trans HQ2.out
    have q0 : X.cell? ⟨w.heap.size + 1, 0, none⟩ = some (.slice none 0 0) := by simp [World.cell?, hq]
    have q1 : X.cell? ⟨w.heap.size + 1, 1, none⟩ = some (.int .i64 0) := by simp [World.cell?, hq]
    have q2 : X.cell? ⟨w.heap.size + 1, 2, none⟩ = some (.slice none 0 0) := by simp [World.cell?, hq]
    have q3 : X.frozen? ⟨w.heap.size + 1, 0, none⟩ = false := by simp [World.frozen?, hq]
    have q4 : X.frozen? ⟨w.heap.size + 1, 1, none⟩ = false := by simp [World.frozen?, hq]
    have q5 : X.frozen? ⟨w.heap.size + 1, 2, none⟩ = false := by simp [World.frozen?, hq]
    have hqX := heap_lt hq
    have HX := Lib.hid (And.intro hk (And.intro hrow (And.intro hown hK)))
    clear hk hrow hown hK hh hq
    have hD2 : w2.heap.size ≤ D := hD
    go_wp2
    obtain ⟨hk, hrow, hown, hK⟩ := HX.out
    have hne : ∀ b, b ≠ w.heap.size + 1 → ((((X.setCell ⟨w.heap.size + 1, 0, none⟩ (.slice V1 cells.length c1)).setCell ⟨w.heap.size + 1, 1, none⟩ (.int .i64 (free : Int))).setCell ⟨w.heap.size + 1, 2, none⟩ (.slice V2 (tidyF (allPs (pnL L) cells free) lk).length c2))).heap[b]? = X.heap[b]? := fun b hb =>
      (Below.heap_setCell _ _ _ b hb).trans ((Below.heap_setCell _ _ _ b hb).trans (Below.heap_setCell _ _ _ b hb))
    refine leaveM ((hne D (by omega)).trans hK) ?_
    have hDz := heap_lt hK
    have e1 : w.heap.size + 1 ≠ D := by omega
    refine ⟨netV V1 c1 cells free V2 c2 (tidyF (allPs (pnL L) cells free) lk), by simp [results, Tryd.f77, go_sem, cell_put, e1, q0, q1, q2], V1, c1, V2, c2, rfl, ?_⟩
    have hBw : Below w.heap.size w (World.putObj (((X.setCell ⟨w.heap.size + 1, 0, none⟩ (.slice V1 cells.length c1)).setCell ⟨w.heap.size + 1, 1, none⟩ (.int .i64 (free : Int))).setCell ⟨w.heap.size + 1, 2, none⟩ (.slice V2 (tidyF (allPs (pnL L) cells free) lk).length c2)) D (.deferred none)) :=
      below_put ((((HB2.out.trans (hk.below (by omega) (by simp; omega))).setCell (p := ⟨w.heap.size + 1, 0, none⟩) (by simp) _).setCell (p := ⟨w.heap.size + 1, 1, none⟩) (by simp) _).setCell (p := ⟨w.heap.size + 1, 2, none⟩) (by simp) _) (by omega) _
    refine ⟨⟨(HR2.out.kp hk (fun b hb => by have := HO2.out b hb; simp; omega)).keep fun b hb => ?_, fun b hb => by have := HO2.out b hb; omega, hBw⟩, ⟨hrow.keep fun b hb => ?_, fun b hb => by have := hown b hb; omega, hBw⟩⟩
    · have := HO2.out b hb
      exact (World.putObj_heap_other (by omega)).trans (hne b (by omega))
    · have h1 := hown b hb
      refine (World.putObj_heap_other (fun e => ?_)).trans (hne b (by omega))
      subst e
      rcases hrow.2 with ⟨e, _⟩ | ⟨g, cap, cur, e, hh, _⟩
      · rw [e] at hb; simp [ownB] at hb
      · rw [e] at hb; simp [ownB] at hb; subst hb
        rw [hh] at hK; cases hK
end Go.Proofs.YtkonfogebepccaaDoor
