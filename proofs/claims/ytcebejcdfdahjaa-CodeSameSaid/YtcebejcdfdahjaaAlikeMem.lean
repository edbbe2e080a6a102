/-
  What skeinlaw12.alike has in memory: two nets, looked at; partners so far; the queue.
-/
import Derived.Test.YtcebejcdfdahjaaLook11
import Derived.Test.YtcebejcdfdahjaaWin
import Derived.Test.YtcebejcdfdahjaaAlikePlain
import Derived.Test.YtcebejcdfdahjaaCodeFrom
namespace Go.Proofs.Ytcebejcdfdahjaa
open Go.RowKit
set_option maxRecDepth 100000
set_option linter.unusedVariables false

structure NLk (pn : Int → Nat) (cs : List Int) (f : Nat) (W : List (Pt × Pt)) (V1 V2 V3 : Option Addr) (c1 c2 c3 M B : Nat) (X : World) : Prop where
  bx : X.heap[B]? = some (.cells #[.slice V1 M c1, .slice V2 M c2, .slice V3 (cs.length + 1) c3, .int .i64 (cs.length : Int)] 144 (0, 0))
  r1 : PtsRd X V1 (allPs pn cs f)
  r2 : IntsRd X V2 (lkK pn cs f W W.length)
  r3 : IntsRd X V3 (firstL pn cs f cs.length ++ [(firstN pn cs f cs.length : Int)])
  hm : firstN pn cs f cs.length = M
section
variable {pn : Int → Nat} {cs : List Int} {f : Nat} {W : List (Pt × Pt)} {V1 V2 V3 : Option Addr} {c1 c2 c3 M B : Nat} {X X' : World}
theorem NLk.below (h : NLk pn cs f W V1 V2 V3 c1 c2 c3 M B X) (hb : Below X.heap.size X X') : NLk pn cs f W V1 V2 V3 c1 c2 c3 M B X' :=
  ⟨(hb.block B (heap_lt h.bx)).trans h.bx, h.r1.below hb, h.r2.below hb, h.r3.below hb, h.hm⟩
theorem NLk.cells (h : NLk pn cs f W V1 V2 V3 c1 c2 c3 M B X) : X.cell? ⟨B, 0, none⟩ = some (.slice V1 M c1) ∧ X.cell? ⟨B, 1, none⟩ = some (.slice V2 M c2) ∧ X.cell? ⟨B, 2, none⟩ = some (.slice V3 (cs.length + 1) c3) ∧ X.cell? ⟨B, 3, none⟩ = some (.int .i64 (cs.length : Int)) ∧ B < X.heap.size := by
  have h' := h.bx
  refine ⟨?_, ?_, ?_, ?_, heap_lt h'⟩ <;> simp [World.cell?, h']
theorem NLk.port (h : NLk pn cs f W V1 V2 V3 c1 c2 c3 M B X) {p : Pt} (hp : isPt pn cs f p = true) : ∃ b off, V1 = some ⟨b, off, none⟩ ∧ b < X.heap.size ∧ plc pn cs f p < M ∧ X.cell? ⟨b, off + plc pn cs f p * 2, none⟩ = some (.int .i64 p.1) ∧ X.cell? ⟨b, off + plc pn cs f p * 2 + 1, none⟩ = some (.int .i64 p.2) := by
  have hl := plc_lt pn hp
  have ha := allPs_plc pn hp
  obtain ⟨b, off, e, hb, h0, h1⟩ := h.r1 (plc pn cs f p) (by rw [allPs_len]; exact hl)
  have hg : (allPs pn cs f).getD (plc pn cs f p) default = p := by rw [List.getD_eq_getElem?_getD, ha]; rfl
  rw [hg] at h0 h1
  exact ⟨b, off, e, hb, by rw [← h.hm]; exact hl, h0, h1⟩
theorem NLk.link (h : NLk pn cs f W V1 V2 V3 c1 c2 c3 M B X) (hok : NetOk pn cs f W) {p : Pt} (hp : isPt pn cs f p = true) : ∃ b off, V2 = some ⟨b, off, none⟩ ∧ b < X.heap.size ∧ plc pn cs f p < M ∧ X.cell? ⟨b, off + plc pn cs f p, none⟩ = some (.int .i64 (plc pn cs f (lkM W p) : Int)) := by
  have hl := plc_lt pn hp
  obtain ⟨q, hq, _⟩ := hok.lnk hp
  have hk := lkK_at hok (Nat.le_refl W.length) hp (by rw [List.take_length]; exact hq)
  obtain ⟨b, off, e, hb, h0⟩ := h.r2 (plc pn cs f p) (by rw [lkK_len]; exact hl)
  have hm : lkM W p = q := by simp [lkM, hq]
  rw [List.getD_eq_getElem?_getD, hk] at h0
  rw [hm]
  exact ⟨b, off, e, hb, by rw [← h.hm]; exact hl, h0⟩
theorem NLk.first (h : NLk pn cs f W V1 V2 V3 c1 c2 c3 M B X) {c : Nat} (hc : c ≤ cs.length) : ∃ b off, V3 = some ⟨b, off, none⟩ ∧ b < X.heap.size ∧ X.cell? ⟨b, off + c, none⟩ = some (.int .i64 (firstN pn cs f c : Int)) := by
  obtain ⟨b, off, e, hb, h0⟩ := h.r3 c (by simp [firstL_len]; omega)
  refine ⟨b, off, e, hb, ?_⟩
  rw [h0]
  have hl := firstL_len pn cs f cs.length
  rcases Nat.lt_or_ge c cs.length with hlt | hge
  · rw [List.getD_eq_getElem?_getD, List.getElem?_append_left (by omega)]
    simp [firstL, hlt]
  · obtain rfl : c = cs.length := by omega
    rw [List.getD_eq_getElem?_getD, List.getElem?_append_right (by omega), hl]
    simp
variable {b o : Nat}
theorem NLk.port2 (h : NLk pn cs f W (some ⟨b, o, none⟩) V2 V3 c1 c2 c3 M B X) {p : Pt} (hp : isPt pn cs f p = true) : b < X.heap.size ∧ plc pn cs f p < M ∧ X.cell? ⟨b, o + plc pn cs f p * 2, none⟩ = some (.int .i64 p.1) ∧ X.cell? ⟨b, o + plc pn cs f p * 2 + 1, none⟩ = some (.int .i64 p.2) := by
  obtain ⟨b2, o2, e, h1⟩ := h.port hp
  simp only [Option.some.injEq, Addr.mk.injEq, and_true] at e
  obtain ⟨rfl, rfl⟩ := e
  exact h1
theorem NLk.link2 (h : NLk pn cs f W V1 (some ⟨b, o, none⟩) V3 c1 c2 c3 M B X) (hok : NetOk pn cs f W) {p : Pt} (hp : isPt pn cs f p = true) : b < X.heap.size ∧ plc pn cs f p < M ∧ X.cell? ⟨b, o + plc pn cs f p, none⟩ = some (.int .i64 (plc pn cs f (lkM W p) : Int)) := by
  obtain ⟨b2, o2, e, h1⟩ := h.link hok hp
  simp only [Option.some.injEq, Addr.mk.injEq, and_true] at e
  obtain ⟨rfl, rfl⟩ := e
  exact h1
theorem NLk.first2 (h : NLk pn cs f W V1 V2 (some ⟨b, o, none⟩) c1 c2 c3 M B X) {c : Nat} (hc : c ≤ cs.length) : b < X.heap.size ∧ X.cell? ⟨b, o + c, none⟩ = some (.int .i64 (firstN pn cs f c : Int)) := by
  obtain ⟨b2, o2, e, h1⟩ := h.first hc
  simp only [Option.some.injEq, Addr.mk.injEq, and_true] at e
  obtain ⟨rfl, rfl⟩ := e
  exact h1
end
/-- The queue's pairs, as places. -/
def placesQ (pn : Int → Nat) (csA csB : List Int) (fA fB : Nat) (Q : List (Pt × Pt)) : List Pt := Q.map fun x => ((plc pn csA fA x.1 : Int), (plc pn csB fB x.2 : Int))
theorem placesQ_snoc (pn : Int → Nat) (csA csB : List Int) (fA fB : Nat) (Q : List (Pt × Pt)) (x : Pt × Pt) : placesQ pn csA csB fA fB (Q ++ [x]) = placesQ pn csA csB fA fB Q ++ [((plc pn csA fA x.1 : Int), (plc pn csB fB x.2 : Int))] := by simp [placesQ]
theorem placesQ_len (pn : Int → Nat) (csA csB : List Int) (fA fB : Nat) (Q : List (Pt × Pt)) : (placesQ pn csA csB fA fB Q).length = Q.length := by simp [placesQ]
structure AlS (pn : Int → Nat) (csA csB : List Int) (fA fB : Nat) (Y : World) (Q : List (Pt × Pt)) (dA dB : List Int) (v : Value) (X : World) : Prop where
  bl : Below Y.heap.size Y X
  rt : Row X 3 1 (.slice (some ⟨Y.heap.size, 0, none⟩) csA.length csA.length) csA.length (ivals (toL csA.length dA dB))
  rf : Row X 3 1 (.slice (some ⟨Y.heap.size + 1, 0, none⟩) csB.length csB.length) csB.length (ivals (toL csB.length dB dA))
  wn : Win X 66 v (placesQ pn csA csB fA fB Q)
  lv : ∀ b ∈ ownB v, Y.heap.size + 2 ≤ b
  par : Par csA.length csB.length dA dB
  pt : ∀ x ∈ Q, isPt pn csA fA x.1 = true ∧ isPt pn csB fB x.2 = true
  sz : Y.heap.size + 2 ≤ X.heap.size
section
variable {pn : Int → Nat} {csA csB : List Int} {fA fB : Nat} {Y X X' : World} {Q : List (Pt × Pt)} {dA dB : List Int} {v v' : Value}
theorem AlS.grow (h : AlS pn csA csB fA fB Y Q dA dB v X) (hb : Below X.heap.size X X') : AlS pn csA csB fA fB Y Q dA dB v X' :=
  ⟨h.bl.trans (hb.mono h.bl.size), h.rt.keep fun b hm => hb.block b (h.rt.lt b hm), h.rf.keep fun b hm => hb.block b (h.rf.lt b hm), h.wn.below hb, h.lv, h.par, h.pt, Nat.le_trans h.sz hb.size⟩
theorem AlS.pop {x : Pt × Pt} (h : AlS pn csA csB fA fB Y (x :: Q) dA dB v X) (hw : Win X 66 v' (placesQ pn csA csB fA fB Q)) (ho : ownB v' = ownB v) : AlS pn csA csB fA fB Y Q dA dB v' X :=
  ⟨h.bl, h.rt, h.rf, hw, fun b hb => h.lv b (ho ▸ hb), h.par, fun y hy => h.pt y (by simp [hy]), h.sz⟩
theorem AlS.push {x : Pt × Pt} {o : Obj} (h : AlS pn csA csB fA fB Y Q dA dB v X) (hx : isPt pn csA fA x.1 = true ∧ isPt pn csB fB x.2 = true) (hw : Win X' 66 v' (placesQ pn csA csB fA fB Q ++ [((plc pn csA fA x.1 : Int), (plc pn csB fB x.2 : Int))])) (hk : Kp (ownB v) (X.alloc o) X')
    (ho : ownB v' = ownB v ∨ ownB v' = [(X.alloc o).heap.size]) : AlS pn csA csB fA fB Y (Q ++ [x]) dA dB v' X' := by
  have hkk : Kp (ownB v) X X' := ((Kp.refl _ X).alloc o).trans hk fun b hb => .inl hb
  refine ⟨h.bl.trans (hkk.below h.bl.size fun b hb => by have := h.lv b hb; omega), h.rt.kp hkk fun b hb hm => ?_, h.rf.kp hkk fun b hb hm => ?_, by rw [placesQ_snoc]; exact hw, fun b hb => ?_, h.par, fun y hy => ?_, Nat.le_trans h.sz hkk.size⟩
  · simp [ownB] at hb; subst hb; have := h.lv _ hm; omega
  · simp [ownB] at hb; subst hb; have := h.lv _ hm; omega
  · rcases ho with e | e
    · exact h.lv b (e ▸ hb)
    · rw [e] at hb; simp at hb; have := h.sz; omega
  · rcases List.mem_append.1 hy with hy | hy
    · exact h.pt y hy
    · rw [List.mem_singleton] at hy; subst hy; exact hx
theorem AlS.pair {c d : Nat} (h : AlS pn csA csB fA fB Y Q dA dB v X) (hc : c < csA.length) (hd : d < csB.length) (hm : (c : Int) ∉ dA) (hm2 : (d : Int) ∉ dB) :
    AlS pn csA csB fA fB Y Q (dA ++ [(c : Int)]) (dB ++ [(d : Int)]) v ((X.setCell ⟨Y.heap.size, c, none⟩ (.int .i64 ((d : Int) + 1))).setCell ⟨Y.heap.size + 1, d, none⟩ (.int .i64 ((c : Int) + 1))) := by
  have r1 := h.rt.set c (.int .i64 ((d : Int) + 1))
  rw [ivals_set, ← toL_snoc hc hm h.par.len] at r1
  have r2 := (h.rf.keep (w' := X.setCell ⟨Y.heap.size, c, none⟩ (.int .i64 ((d : Int) + 1))) fun b hb => Below.heap_setCell _ _ _ b (by simp [ownB] at hb; subst hb; simp)).set d (.int .i64 ((c : Int) + 1))
  rw [ivals_set, ← toL_snoc hd hm2 h.par.len.symm] at r2
  refine ⟨(h.bl.setCell (p := ⟨Y.heap.size, c, none⟩) (by simp) _).setCell (p := ⟨Y.heap.size + 1, d, none⟩) (by simp) _, r1.keep fun b hb => Below.heap_setCell _ _ _ b (by simp [ownB] at hb; subst hb; simp), r2, h.wn.keep fun b hb => ?_, h.lv, h.par.add hc hd hm hm2, h.pt, by simpa using h.sz⟩
  have := h.lv b hb
  exact (Below.heap_setCell _ _ _ b (by show b ≠ Y.heap.size + 1; omega)).trans (Below.heap_setCell _ _ _ b (by show b ≠ Y.heap.size; omega))
theorem AlS.toAt (h : AlS pn csA csB fA fB Y Q dA dB v X) {c : Nat} (hc : c < csA.length) : X.cell? ⟨Y.heap.size, c, none⟩ = some (.int .i64 ((toL csA.length dA dB).getD c 0)) ∧ X.frozen? ⟨Y.heap.size, c, none⟩ = false ∧ Y.heap.size < X.heap.size := by
  refine ⟨?_, h.rt.frozenAt _, h.rt.lt _ (by simp [ownB])⟩
  rw [h.rt.cellAt c (by omega)]
  have := toL_len csA.length dA dB
  simp [ivals, this, hc]
theorem AlS.fromAt (h : AlS pn csA csB fA fB Y Q dA dB v X) {d : Nat} (hd : d < csB.length) : X.cell? ⟨Y.heap.size + 1, d, none⟩ = some (.int .i64 ((toL csB.length dB dA).getD d 0)) ∧ X.frozen? ⟨Y.heap.size + 1, d, none⟩ = false ∧ Y.heap.size + 1 < X.heap.size := by
  refine ⟨?_, h.rf.frozenAt _, h.rf.lt _ (by simp [ownB])⟩
  rw [h.rf.cellAt d (by omega)]
  have := toL_len csB.length dB dA
  simp [ivals, this, hd]
end
section
variable {P : Program} {w : World} {o : Oper} {a : Act} {K' : Act → World → Prop} {Q' : Exit → Act → World → Prop}
theorem wpo_win_push (s x : Operand) (t : TypeId) (ho : o.op = .call { callee := .builtin .append, args := #[s, x], argTypes := #[t, t] }) {e : TypeId} {v : Value} {Q : List Pt} (i : TypeInfo) (z : Value) (ht : P.underlying t = some (.slice e)) (hi : P.info? e = some i) (hz : i.zero = some z)
    (hsize : i.size = 2) (hby : i.bytes = 16) (hzs : z.cells.size = 2) (hs : a.eval s = v) (h : Win w e v Q) (g : Nat) (c : Nat) (x0 y0 : Int) (hx : a.eval x = .slice (some ⟨g, 0, none⟩) 1 c) {T : TypeId} (hb : w.heap[g]? = some (.cells #[.int .i64 x0, .int .i64 y0] T (0, 0))) (hl : Q.length ≤ 1000000)
    (hk : ∀ v' w', Win w' e v' (Q ++ [(x0, y0)]) → Kp (ownB v) w w' → (ownB v' = ownB v ∨ ownB v' = [w.heap.size]) → K' (a.put o.dst v') w') : o.wp P a w K' Q' := by
  obtain ⟨v', w', hr, h2, h3, h4⟩ := h.push (P := P) t o.type i z ht hi hz hsize hby hzs ⟨g, 0, none⟩ c x0 y0 (by simp [World.cell?, hb]) (by rw [Addr.add_lit]; simp [World.cell?, hb]) (by rw [Addr.add_lit]) hl
  unfold Oper.wp execOp
  simp only [ho, resolve, invoke, builtin, Sem.run_bind, Sem.run_pure, Result.andThen_ok, List.map_toArray, List.map_cons, List.map_nil, hs, hx, hr]
  exact hk v' w' h2 h3 h4
end
theorem arr2_info : (Try.prog.info? 66).map (fun i => (i.zero, i.size, i.bytes)) = some (some (.agg #[.int .i64 0, .int .i64 0]), 2, 16) := by kernel_rfl
end Go.Proofs.Ytcebejcdfdahjaa
