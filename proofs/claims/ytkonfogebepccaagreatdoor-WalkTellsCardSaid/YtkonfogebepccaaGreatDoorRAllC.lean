/-
  Contracts of skeinref11.All, skeinref11.Parts.
-/
import Derived.Test.YtkonfogebepccaaGreatDoorRAllA
import Derived.Test.YtkonfogebepccaaGreatDoorRef03C
import Derived.Test.YtkonfogebepccaaGreatDoorLook11
/-
  The document's parts: a round of its loop over the ports.
-/
namespace Go.Proofs.YtkonfogebepccaaGreatDoor
open Go.RowKit
attribute [local go_sem] cell_set
attribute [local go_sem] Oper.semAt_some
set_option maxRecDepth 100000
set_option linter.unusedVariables false
theorem rpart_info : (Tryz.prog.info? 97).map (fun i => (i.zero, i.size, i.bytes)) = some (some (.agg #[.slice none 0 0, .slice none 0 0]), 2, 48) := by kernel_rfl
/-- The lists of the parts are short. -/
def LenQ (qs : List PV) : Prop := ∀ q ∈ qs, q.xs.length ≤ 100000 ∧ q.ys.length ≤ 100000
/-- What the inner loop has seen. -/
def SeenQ (d : Bool) (qs : List PV) (k : Nat) (p : Pt) : Prop := (d = true ∧ ∃ q ∈ qs, bel (paQ q) p) ∨ (d = false ∧ ∀ j, j < k → ∀ q, qs[j]? = some q → ¬ bel (paQ q) p)
theorem SeenQ.start (qs : List PV) (p : Pt) : SeenQ false qs 0 p := .inr ⟨rfl, fun j hj => by omega⟩
theorem SeenQ.step {d d' : Bool} {qs : List PV} {k : Nat} {p : Pt} (h : SeenQ d qs k p) (hh : HitP d d' qs k p) : SeenQ d' qs (k + 1) p := by
  obtain ⟨rfl, hh⟩ := hh
  rcases h with ⟨h, _⟩ | ⟨_, h⟩
  · cases h
  · cases d' with
    | true =>
      obtain ⟨q, hq, hb⟩ := hh.1 rfl
      exact .inl ⟨rfl, q, List.mem_of_getElem? hq, hb⟩
    | false =>
      refine .inr ⟨rfl, fun j hj q hq hb => ?_⟩
      rcases Nat.lt_or_ge j k with h1 | h1
      · exact h j h1 q hq hb
      · obtain rfl : j = k := by omega
        have := hh.2 ⟨q, hq, hb⟩
        cases this
theorem SeenQ.all {d : Bool} {qs : List PV} {k : Nat} {p : Pt} (h : SeenQ d qs k p) (hk : d = true ∨ k = qs.length) : d = true ↔ inPa (qs.map paQ) p := by
  rw [inPa_qs]
  rcases h with ⟨h1, h2⟩ | ⟨h1, h2⟩
  · exact ⟨fun _ => h2, fun _ => h1⟩
  · subst h1
    have hk2 : k = qs.length := by rcases hk with h | h; (· cases h); (· exact h)
    constructor
    · intro h; cases h
    · rintro ⟨q, hq, hb⟩
      obtain ⟨j, hj, rfl⟩ := List.getElem_of_mem hq
      exact absurd hb (h2 j (by omega) _ (List.getElem?_eq_getElem hj))
section
variable (Q : Exit → Act → World → Prop) (Z : World) (b3 b5 M : Nat) (A : Option Addr) (sn cap : Nat) (V1 V2 V3 : Option Addr) (c1 c2 c3 n : Nat) (pn : Int → Nat) (cs : List Int) (f : Nat) (W : List (Pt × Pt))
set_option maxHeartbeats 4000000 in
theorem al_4 (a : Act) (X : World) (i m : Nat) (V : Option Addr) (c : Nat) (qs : List PV) (hi : i ≤ M) (hM5 : M ≤ 100000) (hm5 : m ≤ 100000) (hm : qs.length = m) (hn : n = cs.length) (hn2 : n ≤ 10000) (hf5 : f ≤ 10000) (hM : firstN pn cs f cs.length = M) (hok : Hid (NetOk pn cs f W))
    (hb5 : Hid (Z.heap[b5]? = some (.cells #[.slice V1 M c1, .slice V2 M c2, .slice V3 (n + 1) c3, .int .i64 (n : Int)] 92 (0, 0)) ∧ PtsRd Z V1 (allPs pn cs f) ∧ IntsRd Z V2 (lkK pn cs f W W.length) ∧ IntsRd Z V3 (firstL pn cs f cs.length ++ [(firstN pn cs f cs.length : Int)])))
    (hl : Hid (LenQ qs)) (hI : Hid (PdS Z X (.slice V m c) qs))
    (hgo : Hid (∀ a' X' V' c' m' qs' p, i < M → FrN 78 [] [(0, .slice A sn cap), (3, .pointer (some ⟨b3, 0, none⟩)), (5, .pointer (some ⟨b5, 0, none⟩)), (6, .slice V' m' c'), (7, .int .i64 ((i + 1 : Nat) : Int))] a' → PdS Z X' (.slice V' m' c') qs' → qs'.length = m' → LenQ qs' → (allPs pn cs f)[i]? = some p → qs'.map paQ = stepP pn cs f (lkM W) (qs.map paQ) p → Q .normal a' X'))
    (hout : Hid (∀ a' X', FrN 78 [] [(0, .slice A sn cap), (3, .pointer (some ⟨b3, 0, none⟩)), (5, .pointer (some ⟨b5, 0, none⟩)), (6, .slice V m c)] a' → i = M → PdS Z X' (.slice V m c) qs → Q (.exit 0) a' X'))
    (ha : FrN 78 [] [(0, .slice A sn cap), (3, .pointer (some ⟨b3, 0, none⟩)), (5, .pointer (some ⟨b5, 0, none⟩)), (6, .slice V m c), (7, .int .i64 (i : Int))] a) : (alT 4).wp Tryz.prog Q a X := by
  obtain ⟨U, rfl, e0, e3, e5, e6, e7, -⟩ := ha.openAL
  unfold FrAL
  simp only [e0, e3, e5, e6, e7]
  clear e0 e3 e5 e6 e7 ha
  show (Code.seq _ _).wp _ _ _ _
  have HM := Lib.hid (And.intro hm (And.intro hn hM))
  have x5 : X.heap[b5]? = _ := (hI.out.bel.block _ (heap_lt hb5.out.1)).trans hb5.out.1
  have x0 : X.cell? ⟨b5, 0, none⟩ = some (.slice V1 M c1) := by simp [World.cell?, x5]
  have xl := heap_lt x5
  by_cases hlt : i < M
  · have him : (i : Int) < (M : Int) := by omega
    have HLT : Hid (i < M) := hlt
    have hil : i < (allPs pn cs f).length := by rw [allPs_len, hM]; exact hlt
    obtain ⟨p, hp⟩ : ∃ p, (allPs pn cs f)[i]? = some p := ⟨_, List.getElem?_eq_getElem hil⟩
    have hpi : isPt pn cs f p = true := allPs_is pn (List.mem_of_getElem? hp)
    have hpl := plc_at pn hp
    have HP : Hid ((allPs pn cs f).length = M ∧ (allPs pn cs f).getD i default = p ∧ (p.1 < 0 → p = (-1, (i : Int)))) := by
      refine ⟨by rw [allPs_len, hM], by rw [List.getD_eq_getElem?_getD, hp]; rfl, fun h0 => ?_⟩
      obtain ⟨j, rfl, hj⟩ := isPt_lo hpi h0
      rw [plc_free] at hpl
      rw [hpl]
    have HPP := Lib.hid (And.intro hp (And.intro hpi hpl))
    clear x5 hp hpi hpl hil hlt hm hn hM
    go_upto_region 8 with fail
    rename_i K8 hK8
    refine wp_loop_ghost (fun m' a' X' => ∃ k d, m' = m - k ∧ k ≤ m ∧ FrN 78 [] [(0, .slice A sn cap), (3, .pointer (some ⟨b3, 0, none⟩)), (5, .pointer (some ⟨b5, 0, none⟩)), (6, .slice V m c), (7, .int .i64 (i : Int)), (8, .bool d), (9, .int .i64 (k : Int))] a' ∧ PdS Z X' (.slice V m c) qs ∧ SeenQ d qs k p) m ⟨0, false, by omega, by omega, ⟨rfl, rfl, rfl, rfl, rfl, rfl, rfl, rfl, rfl, trivial⟩, hI.out, SeenQ.start _ _⟩ ?_
    rintro m' a2 X2 ⟨k, d, rfl, hk, hfr, hps, hse⟩
    refine al_8 _ Z b3 b5 M A sn cap V1 V2 V3 V c1 c2 c3 c n (allPs pn cs f) a2 X2 i k m d p qs hk hm5 HM.out.1 HLT.out hM5 HP (Lib.hid ⟨hb5.out.1, hb5.out.2.1⟩) (Lib.hid hl.out) (Lib.hid hps) (Lib.hid fun a3 X3 d' hlt hfr3 hps3 hhit => ?_) (Lib.hid fun a3 X3 hfr3 hkm hps3 => ?_) hfr
    · exact ⟨m - (k + 1), by omega, k + 1, d', rfl, by omega, hfr3, hps3, hse.step hhit⟩
    have HS : Hid (d = true ↔ inPa (qs.map paQ) p) := hse.all (by rw [HM.out.1]; exact hkm)
    refine hK8 _ _ ?_
    obtain ⟨U, rfl, e0, e3, e5, e6, e7, e8, -⟩ := hfr3.openAL
    unfold FrAL
    simp only [e0, e3, e5, e6, e7, e8]
    clear e0 e3 e5 e6 e7 e8 hfr3 hfr hps hse hkm hk hK8 K8 x0 xl
    show (Code.seq _ _).wp _ _ _ _
    have HPS := Lib.hid hps3
    clear hps3
    cases d with
    | true =>
      have hst := stepP_in (pn := pn) (cs := cs) (f := f) (Lk := lkM W) (HS.out.1 rfl)
      have HST := Lib.hid hst
      clear hst
      repeat (first | go_values | go_skip | go_guarded | go_step | go_upon | go_back)
      exact hgo.out _ _ _ _ _ _ p HLT.out ⟨rfl, rfl, rfl, rfl, rfl, rfl, rfl, trivial⟩ HPS.out HM.out.1 hl.out HPP.out.1 HST.out.symm
    | false =>
      have hst := stepP_new (pn := pn) (cs := cs) (f := f) (Lk := lkM W) (fun h => Bool.noConfusion (HS.out.2 h))
      have HST := Lib.hid hst
      clear hst
      have x5 : X3.heap[b5]? = _ := (HPS.out.bel.block _ (heap_lt hb5.out.1)).trans hb5.out.1
      have y0 : X3.cell? ⟨b5, 0, none⟩ = some (.slice V1 M c1) := by simp [World.cell?, x5]
      have y1 : X3.cell? ⟨b5, 1, none⟩ = some (.slice V2 M c2) := by simp [World.cell?, x5]
      have y2 : X3.cell? ⟨b5, 2, none⟩ = some (.slice V3 (n + 1) c3) := by simp [World.cell?, x5]
      have y3 : X3.cell? ⟨b5, 3, none⟩ = some (.int .i64 (n : Int)) := by simp [World.cell?, x5]
      have yl := heap_lt x5
      clear x5
      go_wp2_with fail
      refine (rof11 pn cs f W V1 V2 V3 c1 c2 c3 M n p (i : Int) _ HM.out.2.1 hn2 hf5 HM.out.2.2 hM5 hok HPP.out.2.1 (by rw [HPP.out.2.2]) (Lib.hid (hb5.out.2.1.below HPS.out.bel)) (Lib.hid (hb5.out.2.2.1.below HPS.out.bel)) (Lib.hid (hb5.out.2.2.2.below HPS.out.bel))).mono ?_
      rintro e w1 ⟨av, bv, rfl, hb1, ra, rb, la, lb⟩
      have HP1 := Lib.hid (HPS.out.below hb1)
      obtain ⟨xs, hxs⟩ : ∃ xs, (partOf pn cs f (lkM W) p).1 = xs := ⟨_, rfl⟩
      obtain ⟨ys, hys⟩ : ∃ ys, (partOf pn cs f (lkM W) p).2 = ys := ⟨_, rfl⟩
      rw [hxs] at ra
      rw [hys] at rb
      have hlx : xs.length ≤ 100000 := by
        rw [← hxs]
        have := srtC_len cs.length (wlk pn cs (lkM W) p)
        have h2 := HM.out.2.1
        show (srtC cs.length (wlk pn cs (lkM W) p)).length ≤ _; omega
      have hly : ys.length ≤ 100000 := by
        rw [← hys]
        have := frL_len f (lkM W) p (wlk pn cs (lkM W) p)
        show (frL f (lkM W) p (wlk pn cs (lkM W) p)).length ≤ _; omega
      have HAB := Lib.hid (And.intro ra (And.intro rb (And.intro hlx (And.intro hly (show partOf pn cs f (lkM W) p = (xs, ys) by rw [← hxs, ← hys])))))
      obtain ⟨j0, hj0, hj1, hj2, hj3⟩ := info_parts rpart_info
      obtain ⟨Va, ca, rfl, _⟩ := ra.len
      obtain ⟨Vb, cb, rfl, _⟩ := rb.len
      have HRw : Hid (Row (w1.alloc (.cells #[.slice Va xs.length ca, .slice Vb ys.length cb] 97)) 97 2 (.slice V m c) m (pvCells qs)) := by
        have := HP1.out.lr.alloc (.cells #[.slice Va xs.length ca, .slice Vb ys.length cb] 97)
        rw [HM.out.1] at this; exact this
      have HSr : Hid (Src (w1.alloc (.cells #[.slice Va xs.length ca, .slice Vb ys.length cb] 97)) (some ⟨w1.heap.size, 0, none⟩) 1 2 [.slice Va xs.length ca, .slice Vb ys.length cb]) := Src.block (cs := #[.slice Va xs.length ca, .slice Vb ys.length cb]) (t := 97) (fr := (0, 0)) (heap_alloc_new w1 _) rfl (by simp [Value.oneCell'])
      have hg63 : m + 1 ≤ maxLen := by simp only [maxLen]; omega
      have hg47 : (m + 1) * 48 ≤ 140737488355328 := by omega
      clear hb1 ra rb la lb hxs hys hlx hly y0 y1 y2 y3 yl
      simp only []
      go_wp2_with (at_builtin; go_loud (refine inPlain rfl (wpo_row_append _ _ _ rfl j0 _ 48 Tryz.underlying39 hj0 hj1 hj2 hj3 rfl rfl HRw.out _ 1 1 rfl [.slice Va xs.length ca, .slice Vb ys.length cb] HSr.out hg63 hg47 ?_)); intro sv5 w5 r5 k5 o5; obtain ⟨V5, cp5, rfl, hc5⟩ := r5.len
                   change Kp (ownB (.slice V m c)) _ w5 at k5
                   change ownB (.slice V5 (m + 1) cp5) = ownB (.slice V m c) ∨ ownB (.slice V5 (m + 1) cp5) = [_] at o5
                   have A5 := PdS.app (q := ⟨.slice Va xs.length ca, .slice Vb ys.length cb, xs, ys⟩) HP1.out HAB.out.1 HAB.out.2.1 (by rw [HM.out.1]; exact r5) k5 o5
                   have HA5 := Lib.hid A5
                   clear A5 k5 o5 r5)
      refine hgo.out _ _ _ _ (m + 1) _ p HLT.out ⟨rfl, rfl, rfl, rfl, rfl, rfl, rfl, trivial⟩ HA5.out (by rw [List.length_append, HM.out.1]; rfl) (fun q hq => ?_) HPP.out.1 ?_
      · rcases List.mem_append.1 hq with hq | hq
        · exact hl.out q hq
        · simp at hq; subst hq; exact ⟨HAB.out.2.2.1, HAB.out.2.2.2.1⟩
      · rw [HST.out, List.map_append, HAB.out.2.2.2.2]; rfl
  · obtain rfl : i = M := by omega
    have him : ¬ (i : Int) < (i : Int) := by omega
    clear x5 hm hn hM hlt
    repeat (first | go_values | go_skip | go_guarded | go_step | go_upon | go_back)
    exact hout.out _ _ ⟨rfl, rfl, rfl, rfl, rfl, rfl, trivial⟩ rfl hI.out
end
end Go.Proofs.YtkonfogebepccaaGreatDoor
namespace Go.Proofs.YtkonfogebepccaaGreatDoor
open Go.RowKit
attribute [local go_sem] cell_set
attribute [local go_sem] Oper.semAt_some
set_option maxRecDepth 100000
set_option linter.unusedVariables false
theorem PdS.from {w Z X : World} {v : Value} {qs : List PV} (h : PdS Z X v qs) (hb : Below w.heap.size w Z) : PdS w X v qs := ⟨hb.trans (h.bel.mono hb.size), h.lr, fun b hm => Nat.le_trans hb.size (h.lo b hm), h.q1⟩
section
variable (A : Option Addr) (n cap : Nat) (L : List (ByteArray × Int)) (VA VB : Option Addr) (ca cb : Nat) (cells : List Int) (W : List (Pt × Pt)) (w : World)
set_option maxHeartbeats 4000000 in
theorem rall11 (f : Nat) (hn : n = L.length) (HL : Hid (AgRd w A L)) (hs : SigOk L) (HC : Hid (IntsRd w VA cells)) (HW : Hid (WrRd w VB W)) (hc : cells.length ≤ 5000) (hf : f ≤ 100) (hw : W.length ≤ 40000) (hok : Hid (NetOk (pnL L) cells f W)) :
    Calls Tryz.prog 36 #[.slice A n cap, netV VA ca cells f VB cb W] w fun e w' => ∃ v qs, e = .returned v ∧ PdS w w' v qs ∧ LenQ qs ∧ qs.map paQ = partsK (pnL L) cells f (lkM W) [] (allPs (pnL L) cells f) := by
  subst hn
  obtain ⟨M, hM⟩ : ∃ M, firstN (pnL L) cells f cells.length = M := ⟨_, rfl⟩
  have HM := Lib.hid hM
  have hMl : M ≤ 100000 := by
    have := firstN_le (pnL_le hs) cells f cells.length
    omega
  have HSg := Lib.hid hs
  clear hM hs
  go_enter Tryz.func36, Tryz.ntmps36
  go_upto_region 1 with fail
  refine absW (fun X => Below w.heap.size w X ∧ NBox X w.heap.size VA cells.length ca f VB W.length cb) ⟨by (repeat (first | exact Below.refl _ _ | (with_reducible refine Below.drew ?_) | (with_reducible refine Below.alloc ?_ (by (try simp); (try omega)) _) | (with_reducible refine Below.setCell ?_ (by (try simp); (try omega)) _) | (with_reducible refine Below.trans ?_ (Below.mono (by assumption) (by (try simp); (try omega)))))), ⟨by simp <;> omega, by go_simp, by go_simp, by go_simp⟩⟩ ?_
  rintro X ⟨hbx, hnb⟩
  have HX := Lib.hid (And.intro hbx hnb)
  have c0 := HX.out.2.c0
  have c1 := HX.out.2.c1
  have c2 := HX.out.2.c2
  have clt := HX.out.2.lt
  clear hbx hnb
  go_wp2_with fail
  refine (rlook A _ cap L VA VB ca cb cells f W _ rfl (Lib.hid (HL.out.below HX.out.1)) HSg.out (Lib.hid (HC.out.below HX.out.1)) (Lib.hid (HW.out.below HX.out.1)) hc hf hw hok).mono ?_
  rintro e w1 ⟨V1, k1, V2, k2, V3, k3, rfl, h1, h2, h3, hb4⟩
  have hal : (allPs (pnL L) cells f).length = M := by rw [allPs_len, HM.out]
  have HAL := Lib.hid hal
  rw [hal, HM.out]
  have HL4 := Lib.hid (And.intro h1 (And.intro h2 h3))
  have HB4 := Lib.hid (HX.out.1.trans (hb4.mono HX.out.1.size))
  clear h1 h2 h3 hb4 c0 c1 c2 clt hal
  simp only []
  go_upto_region 4 with fail
  refine absW (fun Z => Below w1.heap.size w1 Z ∧ Z.heap[w1.heap.size]? = some (.cells #[.slice V1 M k1, .slice V2 M k2, .slice V3 (cells.length + 1) k3, .int .i64 (cells.length : Int)] 92 (0, 0))) ⟨by (repeat (first | exact Below.refl _ _ | (with_reducible refine Below.drew ?_) | (with_reducible refine Below.alloc ?_ (by (try simp); (try omega)) _) | (with_reducible refine Below.setCell ?_ (by (try simp); (try omega)) _) | (with_reducible refine Below.trans ?_ (Below.mono (by assumption) (by (try simp); (try omega)))))), ?_⟩ ?_
  · exact heap_alloc_new w1 _
  rintro Z ⟨hbZ, hz5⟩
  have HZ : Hid (Below w.heap.size w Z ∧ Z.heap[w1.heap.size]? = some (.cells #[.slice V1 M k1, .slice V2 M k2, .slice V3 (cells.length + 1) k3, .int .i64 (cells.length : Int)] 92 (0, 0)) ∧ PtsRd Z V1 (allPs (pnL L) cells f) ∧ IntsRd Z V2 (lkK (pnL L) cells f W W.length) ∧ IntsRd Z V3 (firstL (pnL L) cells f cells.length ++ [(firstN (pnL L) cells f cells.length : Int)])) :=
    ⟨HB4.out.trans (hbZ.mono HB4.out.size), hz5, HL4.out.1.below hbZ, HL4.out.2.1.below hbZ, HL4.out.2.2.below hbZ⟩
  clear hbZ hz5
  have l0 : LenQ [] := fun q hq => nomatch hq
  have m0 : ([] : List PV).map paQ = partsK (pnL L) cells f (lkM W) [] ((allPs (pnL L) cells f).take 0) := by rw [List.take_zero]; rfl
  rename_i K4 hK4
  refine wp_loop_ghost (fun m' a' X' => ∃ i V c m qs, m' = M - i ∧ i ≤ M ∧ FrN 78 [] [(0, .slice A L.length cap), (3, .pointer (some ⟨w.heap.size, 0, none⟩)), (5, .pointer (some ⟨w1.heap.size, 0, none⟩)), (6, .slice V m c), (7, .int .i64 (i : Int))] a' ∧ PdS Z X' (.slice V m c) qs ∧ qs.length = m ∧ LenQ qs ∧ qs.map paQ = partsK (pnL L) cells f (lkM W) [] ((allPs (pnL L) cells f).take i)) M
    ⟨0, none, 0, 0, [], by omega, by omega, ⟨rfl, rfl, rfl, rfl, rfl, rfl, rfl, trivial⟩, PdS.start Z, rfl, l0, m0⟩ ?_
  rintro m' a2 X2 ⟨i, V, c, m, qs, rfl, hi, hfr, hps, hm, hlq, hmap⟩
  have hmm : m ≤ 100000 := by
    have h1 := partsK_len (pn := pnL L) (cs := cells) (f := f) (Lk := lkM W) ((allPs (pnL L) cells f).take i) (l := [])
    rw [← hmap, List.length_map, hm, List.length_take, List.length_nil] at h1
    omega
  refine al_4 _ Z w.heap.size w1.heap.size M A _ cap V1 V2 V3 k1 k2 k3 cells.length (pnL L) cells f W a2 X2 i m V c qs hi hMl hmm hm rfl (by omega) (by omega) HM.out hok (Lib.hid HZ.out.2) (Lib.hid hlq) (Lib.hid hps) (Lib.hid fun a3 X3 V' c' m' qs' p hlt hfr3 hps3 hm3 hlq3 hpi hmap3 => ?_) (Lib.hid fun a3 X3 hfr3 him hps3 => ?_) hfr
  · refine ⟨M - (i + 1), by omega, i + 1, V', c', m', qs', rfl, by omega, hfr3, hps3, hm3, hlq3, ?_⟩
    rw [hmap3, hmap, List.take_add_one, hpi, ← partsK_snoc]
    rfl
  rw [List.take_of_length_le (by rw [HAL.out]; omega)] at hmap
  refine hK4 _ _ ?_
  obtain ⟨U, rfl, e0, e3, e5, e6, -⟩ := hfr3.openAL
  unfold FrAL
  simp only [e0, e3, e5, e6]
  have HR := Lib.hid (And.intro (hps3.from HZ.out.1) (And.intro hlq hmap))
  clear e0 e3 e5 e6 hfr3 hfr hps hps3 hm hlq hmap hK4 K4 him hi hmm
  show (Code.seq _ _).wp _ _ _ _
  go_wp2_with fail
  try rw [Exit.noGoto_ret]
  exact bodyPost_ret (v := .slice V m c) (by simp only [results, Tryz.results36]; go_simp) rfl ⟨_, qs, rfl, HR.out.1, HR.out.2.1, HR.out.2.2⟩
set_option maxHeartbeats 1000000 in
theorem rparts_bad (free : Int) (hn : n = L.length) (hcap : L.length ≤ cap) (HL : Hid (AgRd w A L)) (hl : L.length ≤ maxLen) (HC : Hid (IntsRd w VA cells)) (HW : Hid (WrRd w VB W)) (hc : cells.length ≤ 10000) (hw : W.length ≤ 40000) (k : Int)
    (hk : (netChk (pnL L) L.length (chk L) cells free W).1 = k) (hk0 : k ≠ 0) :
    Calls Tryz.prog 11 #[.slice A n cap, netV VA ca cells free VB cb W] w fun e w' => e = .returned (.tuple #[.slice none 0 0, .int .i64 k]) ∧ Below w.heap.size w w' := by
  have HK := Lib.hid hk
  have f0 : (k != 0) = true := by simpa using hk0
  clear hk hk0
  subst hn
  go_enter Tryz.func11, Tryz.ntmps11
  go_upto_region 1 with fail
  refine absW (fun X => Below w.heap.size w X ∧ NBox X w.heap.size VA cells.length ca free VB W.length cb) ⟨by (repeat (first | exact Below.refl _ _ | (with_reducible refine Below.drew ?_) | (with_reducible refine Below.alloc ?_ (by (try simp); (try omega)) _) | (with_reducible refine Below.setCell ?_ (by (try simp); (try omega)) _) | (with_reducible refine Below.trans ?_ (Below.mono (by assumption) (by (try simp); (try omega)))))), ⟨by simp <;> omega, by go_simp, by go_simp, by go_simp⟩⟩ ?_
  rintro X ⟨hbx, hnb⟩
  have HX := Lib.hid (And.intro hbx hnb)
  have c0 := HX.out.2.c0
  have c1 := HX.out.2.c1
  have c2 := HX.out.2.c2
  have clt := HX.out.2.lt
  clear hbx hnb
  go_wp2_with fail
  refine (rcheck3 A _ cap L VA VB ca cb cells free W _ rfl hcap (Lib.hid (HL.out.below HX.out.1)) hl (Lib.hid (HC.out.below HX.out.1)) (Lib.hid (HW.out.below HX.out.1)) hc hw).mono ?_
  rintro e w1 ⟨rfl, hb1⟩
  rw [HK.out]
  have HB := Lib.hid (HX.out.1.trans (hb1.mono HX.out.1.size))
  clear hb1 c0 c1 c2 clt
  simp only []
  go_wp2_with fail
  go_ret2
  exact ⟨rfl, HB.out⟩
set_option maxHeartbeats 1000000 in
theorem rparts_ok (f : Nat) (hn : n = L.length) (hcap : L.length ≤ cap) (HL : Hid (AgRd w A L)) (hl : L.length ≤ maxLen) (HC : Hid (IntsRd w VA cells)) (HW : Hid (WrRd w VB W)) (hc : cells.length ≤ 10000) (hw : W.length ≤ 40000)
    (hk : (netChk (pnL L) L.length (chk L) cells (f : Int) W).1 = 0) :
    Calls Tryz.prog 11 #[.slice A n cap, netV VA ca cells (f : Int) VB cb W] w fun e w' => ∃ v qs, e = .returned (.tuple #[v, .int .i64 0]) ∧ PdS w w' v qs ∧ LenQ qs ∧ qs.map paQ = partsK (pnL L) cells f (lkM W) [] (allPs (pnL L) cells f) := by
  obtain ⟨hz, hc4, hf0, hf64, hag, hok⟩ := netChk_ok hk
  rw [Int.toNat_natCast] at hok
  have hsg := Lib.hid (chk_sig hz)
  have HOk := Lib.hid hok
  have HK := Lib.hid hk
  have hc5 : cells.length ≤ 5000 := by omega
  have hf : f ≤ 100 := by omega
  clear hk hz hag hok hf0 hf64 hc4
  subst hn
  go_enter Tryz.func11, Tryz.ntmps11
  go_upto_region 1 with fail
  refine absW (fun X => Below w.heap.size w X ∧ NBox X w.heap.size VA cells.length ca (f : Int) VB W.length cb) ⟨by (repeat (first | exact Below.refl _ _ | (with_reducible refine Below.drew ?_) | (with_reducible refine Below.alloc ?_ (by (try simp); (try omega)) _) | (with_reducible refine Below.setCell ?_ (by (try simp); (try omega)) _) | (with_reducible refine Below.trans ?_ (Below.mono (by assumption) (by (try simp); (try omega)))))), ⟨by simp <;> omega, by go_simp, by go_simp, by go_simp⟩⟩ ?_
  rintro X ⟨hbx, hnb⟩
  have HX := Lib.hid (And.intro hbx hnb)
  have c0 := HX.out.2.c0
  have c1 := HX.out.2.c1
  have c2 := HX.out.2.c2
  have clt := HX.out.2.lt
  clear hbx hnb
  go_wp2_with fail
  refine (rcheck3 A _ cap L VA VB ca cb cells (f : Int) W _ rfl hcap (Lib.hid (HL.out.below HX.out.1)) hl (Lib.hid (HC.out.below HX.out.1)) (Lib.hid (HW.out.below HX.out.1)) hc hw).mono ?_
  rintro e w1 ⟨rfl, hb1⟩
  rw [HK.out]
  have HX := Lib.hid (And.intro (HX.out.1.trans (hb1.mono HX.out.1.size)) (HX.out.2.below hb1))
  clear hb1 c0 c1 c2 clt
  have c0 := HX.out.2.c0
  have c1 := HX.out.2.c1
  have c2 := HX.out.2.c2
  have clt := HX.out.2.lt
  simp only []
  go_wp2_with fail
  refine (rall11 A _ cap L VA VB ca cb cells W _ f rfl (Lib.hid (HL.out.below HX.out.1)) hsg.out (Lib.hid (HC.out.below HX.out.1)) (Lib.hid (HW.out.below HX.out.1)) hc5 hf hw HOk).mono ?_
  rintro e w2 ⟨v, qs, rfl, h1, h2, h3⟩
  have HR := Lib.hid (And.intro (h1.from HX.out.1) (And.intro h2 h3))
  clear h1 h2 h3 c0 c1 c2 clt
  simp only []
  go_wp2_with fail
  go_ret2
  exact ⟨_, qs, rfl, HR.out.1, HR.out.2.1, HR.out.2.2⟩
end
end Go.Proofs.YtkonfogebepccaaGreatDoor
