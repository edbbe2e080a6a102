/-
  load.Store: the wires.
-/
import Derived.Test.YthbobooiedcofaaStoreC
import Derived.Test.YthbobooiedcofaaEqN
import Derived.Deep.Cut
import Derived.Deep.DeepCutAuto
import Derived.Deep.RegionHeld3
import Derived.Deep.DrawnRows
namespace Go.Proofs.Ythbobooiedcofaa
open Go.RowKit
attribute [local go_sem] cell_set
attribute [local go_sem high] run_neq_port
attribute [local go_sem high] run_eql_port
attribute [local go_sem ↓] Go.wp_at_zero Go.wp_at_succ
set_option maxRecDepth 100000
set_option linter.unusedVariables false

/-- What the loop over the ports keeps. -/
structure S2 (w w0 : World) (As : Option Addr) (n cap A b10 b11 b12 b13 m : Nat) (f : Int) (C K : List Int) (Ps : List Pt) (T : List (Pt × Pt)) (g : Int → Option Value) (D : Nat) (V : Option Addr) (c : Nat) (X : World) : Prop where
  b : SB w w0 As n cap A b10 b11 b12 b13 m f C K Ps T g X
  d : X.heap[D]? = some (.deferred (some []))
  r : Row X 39 2 (.slice V Ps.length c) Ps.length (pvals Ps)
section
variable {w w0 X X' : World} {As : Option Addr} {n cap A b10 b11 b12 b13 m : Nat} {f : Int} {C K : List Int} {Ps : List Pt} {T T' : List (Pt × Pt)} {g : Int → Option Value} {D : Nat} {V : Option Addr} {c : Nat}
theorem S2.below (h : S2 w w0 As n cap A b10 b11 b12 b13 m f C K Ps T g D V c X) (hb : Below X.heap.size X X') : S2 w w0 As n cap A b10 b11 b12 b13 m f C K Ps T g D V c X' :=
  ⟨h.b.below hb, (hb.block D (heap_lt h.d)).trans h.d, h.r.keep fun y hy => hb.block y (h.r.lt y hy)⟩
theorem S2.kn (h : S2 w w0 As n cap A b10 b11 b12 b13 m f C K Ps T g D V c X) (ht : St w0 b10 b11 b13 m f C K Ps T' g X') (hk : KN X X') : S2 w w0 As n cap A b10 b11 b12 b13 m f C K Ps T' g D V c X' := by
  obtain ⟨G, hk, hG⟩ := hk
  refine ⟨h.b.of ht, (hk.block D (heap_lt h.d) fun hm => ?_).trans h.d, h.r.keep fun y hy => hk.block y (h.r.lt y hy) fun hm => ?_⟩
  · obtain ⟨c, t, h1, _⟩ := hG D hm
    rw [h.d] at h1; cases h1
  · obtain ⟨c, t, h1, h2⟩ := hG y hm
    obtain ⟨cur, h3⟩ := h.r.ty hy
    rw [h3] at h1; injection h1 with h1; injection h1 with _ h1; exact h2 h1.symm
end
/-- What the second loop asks of where the ports lead. -/
def Leads (S : Wir) (W : List (Pt × Pt)) (Ps : List Pt) : Prop := ∀ p ∈ Ps, ∃ q, lnk W p = some q ∧ q ∈ Ps ∧ S.toE p = 0 ∧ S.toP p = q ∧ S.toE q = 0 ∧ S.toP q = p ∧ q ≠ p
theorem two_fst (X : World) (a b : Obj) : ((X.alloc a).alloc b).heap[X.heap.size]? = some a := alloc_at (heap_alloc_new X a) b
theorem two_snd (X : World) (a b : Obj) : ((X.alloc a).alloc b).heap[X.heap.size + 1]? = some b := alloc_new b (World.size_alloc _ _)
theorem zint : ∀ W, (zeroValue 3).run Try.prog W = .ok (.int .i64 0) W := fun W => by kernel_rfl
section
variable (Q : Exit → Act → World → Prop) (w w0 : World) (As : Option Addr) (n cap : Nat) (B A b10 b11 b12 b13 m : Nat) (S : Wir) (FA : List Nat)
set_option maxHeartbeats 4000000 in
theorem ls_30 (f : Int) (C K : List Int) (Ps : List Pt) (W : List (Pt × Pt)) (g : Int → Option Value) (D : Nat) (ds : List Deferred) (a : Act) (X : World) (hG : Hid (WG w B A S FA)) (hT : Hid (Leads S W Ps)) (hg : Hid (∀ p ∈ Ps, g p.1 = some (.int .i64 p.1))) (hPl : Ps.length ≤ 40000)
    (hS : SB w w0 As n cap A b10 b11 b12 b13 m f C K Ps [] g X) (hD : X.heap[D]? = some (.deferred (some [])))
    (hnext : Hid (∀ a' Y, FrN 182 ds (LS w.heap.size B b10 b11 b12 b13) a' → SB w w0 As n cap A b10 b11 b12 b13 m f C K Ps (tidyW Ps W) g Y → Y.heap[D]? = some (.deferred (some [])) → (lsT 41).wp Try.prog Q a' Y))
    (ha : FrN 182 ds (LS w.heap.size B b10 b11 b12 b13) a) : (lsT 30).wp Try.prog Q a X := by
  obtain ⟨U, rfl, e1, e2, e4, e5, e6, e7, e10, e11, e12, e13, -⟩ := ha.open
  obtain ⟨V, c, q0, q1, hrow, _⟩ := hS.t.portS
  have H0 : Hid (S2 w w0 As n cap A b10 b11 b12 b13 m f C K Ps (tidyW (Ps.take 0) W) g D V c X) := ⟨hS, hD, hrow⟩
  unfold FrGL
  simp only [e1, e2, e4, e5, e6, e7, e10, e11, e12, e13]
  clear e1 e2 e4 e5 e6 e7 e10 e11 e12 e13 ha hS hD hrow
  show (Code.seq _ _).wp _ _ _ _
  obtain ⟨i0, hi0, hi1, hi2, hi3⟩ := info_parts wire_info
  go_upto_region 31 with fail
  clear q0 q1
  go_loopw [105] (fun i wr => ∃ k : Nat, i = .int .i64 k ∧ k ≤ Ps.length ∧ Hid (S2 w w0 As n cap A b10 b11 b12 b13 m f C K Ps (tidyW (Ps.take k) W) g D V c wr)) (fun i _ => Ps.length - (intOf i).toNat)
  case atStart => exact ⟨0, rfl, Nat.zero_le _, H0⟩
  case round =>
    obtain ⟨k, rfl, hk, HR⟩ := hrel
    clear H0
    by_cases hlt : k < Ps.length
    · obtain ⟨r, cap', cur, hv, hh, _⟩ := HR.out.r.some_ (by omega)
      injection hv with hv1 _ hv3
      subst hv1
      have hpm : Ps.getD k default ∈ Ps := by rw [List.getD_eq_getElem?_getD, List.getElem?_eq_getElem hlt]; exact List.getElem_mem hlt
      have htk : Ps.take (k + 1) = Ps.take k ++ [Ps.getD k default] := by rw [List.take_add_one, List.getElem?_eq_getElem hlt, List.getD_eq_getElem?_getD, List.getElem?_eq_getElem hlt]; rfl
      have hsn := tidyW_snoc (Ps.take k) (Ps.getD k default) W
      rw [← htk] at hsn
      obtain ⟨v0, v1⟩ := pvals_at Ps hlt
      obtain ⟨q, t1, t2, t3, t4, t5, t6, t7⟩ := hT.out _ hpm
      have g1 := hg.out _ hpm
      have g2 := hg.out _ t2
      rw [t1] at hsn
      generalize Ps.getD k default = p at *
      obtain ⟨p0, p1⟩ := p
      obtain ⟨q2, q3⟩ := q
      have c0 : wr.cell? ⟨r, k * 2, none⟩ = some (.int .i64 p0) := (HR.out.r.cellAt _ (by omega)).trans v0
      have c1 : wr.cell? ⟨r, k * 2 + 1, none⟩ = some (.int .i64 p1) := (HR.out.r.cellAt _ (by omega)).trans v1
      have hrl := heap_lt hh
      have HT := Lib.hid (And.intro t3 (And.intro t4 (And.intro t5 t6)))
      have HSN := Lib.hid hsn
      have hqp : eqP (q2, q3) (p0, p1) = false := by unfold eqP; simpa using t7
      have hpp : eqP (p0, p1) (p0, p1) = true := by unfold eqP; simp
      have HQ := Lib.hid (And.intro hqp hpp)
      simp only at g1 g2
      have HGm := Lib.hid (And.intro g1 g2)
      clear v0 v1 t1 t2 t3 t4 t5 t6 t7 g1 g2 hsn htk hpm hqp hpp hh hv3
      go_upto_region 33 with fail
      refine absW (fun X1 => Hid (S2 w w0 As n cap A b10 b11 b12 b13 m f C K Ps (tidyW (Ps.take k) W) g D (some ⟨r, 0, none⟩) c X1) ∧ X1.heap[wr.heap.size]? = some (.cells #[.int .i64 p0, .int .i64 p1] 39 (0, 0))) ⟨Lib.hid (HR.out.below ((Below.refl _ _).alloc (Nat.le_refl _) _)), heap_alloc_new _ _⟩ ?_
      clear c0 c1 hrl
      rintro X1 ⟨H1, hP⟩
      generalize wr.heap.size = bp at hP ⊢
      clear HR
      have P0 : X1.cell? ⟨bp, 0, none⟩ = some (.int .i64 p0) := by simp [World.cell?, hP]
      have P1 : X1.cell? ⟨bp, 1, none⟩ = some (.int .i64 p1) := by simp [World.cell?, hP]
      have hbp := heap_lt hP
      go_upto_region 34 with (go_at_call 17; refine (wi_to B A S FA X1 p0 p1 (H1.out.b.wg hG.out)).mono ?_; rintro e w2 ⟨rfl, hb2⟩; rw [HT.out.1, HT.out.2.1])
      have H2 := Lib.hid (H1.out.below hb2)
      refine absW (fun X2 => Hid (S2 w w0 As n cap A b10 b11 b12 b13 m f C K Ps (tidyW (Ps.take k) W) g D (some ⟨r, 0, none⟩) c X2) ∧ X2.heap[bp]? = some (.cells #[.int .i64 p0, .int .i64 p1] 39 (0, 0)) ∧ X2.heap[w2.heap.size]? = some (.cells #[.int .i64 q2, .int .i64 q3] 39 (0, 0)))
        ⟨Lib.hid (H2.out.below ((Below.refl _ _).alloc (Nat.le_refl _) _)), alloc_at ((hb2.block bp hbp).trans hP) _, heap_alloc_new _ _⟩ ?_
      clear P0 P1 hbp hP
      rintro X2 ⟨H2', hP, hQ2⟩
      generalize w2.heap.size = bq at hQ2 ⊢
      clear H2 H1 hb2
      have P0 : X2.cell? ⟨bp, 0, none⟩ = some (.int .i64 p0) := by simp [World.cell?, hP]
      have P1 : X2.cell? ⟨bp, 1, none⟩ = some (.int .i64 p1) := by simp [World.cell?, hP]
      have Q0 : X2.cell? ⟨bq, 0, none⟩ = some (.int .i64 q2) := by simp [World.cell?, hQ2]
      have Q1 : X2.cell? ⟨bq, 1, none⟩ = some (.int .i64 q3) := by simp [World.cell?, hQ2]
      have hbp := heap_lt hP
      have hbq := heap_lt hQ2
      go_upto_region 35 with (go_at_call 17; refine (wi_to B A S FA X2 q2 q3 (H2'.out.b.wg hG.out)).mono ?_; rintro e w3 ⟨rfl, hb3⟩; rw [HT.out.2.2.1, HT.out.2.2.2])
      have H3 := Lib.hid (H2'.out.below hb3)
      refine absW (fun X3 => Hid (S2 w w0 As n cap A b10 b11 b12 b13 m f C K Ps (tidyW (Ps.take k) W) g D (some ⟨r, 0, none⟩) c X3) ∧ X3.heap[bp]? = some (.cells #[.int .i64 p0, .int .i64 p1] 39 (0, 0)) ∧ X3.heap[bq]? = some (.cells #[.int .i64 q2, .int .i64 q3] 39 (0, 0)) ∧ X3.heap[w3.heap.size]? = some (.cells #[.int .i64 p0, .int .i64 p1] 39 (0, 0)))
        ⟨Lib.hid (H3.out.below ((Below.refl _ _).alloc (Nat.le_refl _) _)), alloc_at ((hb3.block bp hbp).trans hP) _, alloc_at ((hb3.block bq hbq).trans hQ2) _, heap_alloc_new _ _⟩ ?_
      clear P0 P1 Q0 Q1 hbp hbq hP hQ2
      rintro X3 ⟨H3', hP, hQ2, hR2⟩
      generalize w3.heap.size = br at hR2 ⊢
      clear H3 H2' hb3
      have P0 : X3.cell? ⟨bp, 0, none⟩ = some (.int .i64 p0) := by simp [World.cell?, hP]
      have P1 : X3.cell? ⟨bp, 1, none⟩ = some (.int .i64 p1) := by simp [World.cell?, hP]
      have Q0 : X3.cell? ⟨bq, 0, none⟩ = some (.int .i64 q2) := by simp [World.cell?, hQ2]
      have Q1 : X3.cell? ⟨bq, 1, none⟩ = some (.int .i64 q3) := by simp [World.cell?, hQ2]
      have R0 : X3.cell? ⟨br, 0, none⟩ = some (.int .i64 p0) := by simp [World.cell?, hR2]
      have R1 : X3.cell? ⟨br, 1, none⟩ = some (.int .i64 p1) := by simp [World.cell?, hR2]
      have hbp := heap_lt hP
      have hbq := heap_lt hQ2
      have hbr := heap_lt hR2
      obtain ⟨hqp, hpp⟩ := HQ.out
      go_upto_region 37 with fail
      clear hqp hpp R0 R1 hbr
      clear P0 P1 Q0 Q1
      have hS12 : ∀ Y, Below X3.heap.size X3 Y → Y.cell? ⟨b12, 0, none⟩ = some (.map (some m)) ∧ (Y.cell? ⟨bp, 0, none⟩ = some (.int .i64 p0) ∧ Y.cell? ⟨bp, 1, none⟩ = some (.int .i64 p1)) ∧ (Y.cell? ⟨bq, 0, none⟩ = some (.int .i64 q2) ∧ Y.cell? ⟨bq, 1, none⟩ = some (.int .i64 q3)) ∧
          (Instr.lookup 136 (.map (some m)) (.int .i64 p0) false).run Try.prog Y = .ok (.int .i64 p0) Y ∧ (Instr.lookup 136 (.map (some m)) (.int .i64 q2) false).run Try.prog Y = .ok (.int .i64 q2) Y := fun Y hb => by
        have h1 := (H3'.out.below hb)
        have hp := (hb.block bp hbp).trans hP
        have hq := (hb.block bq hbq).trans hQ2
        have l1 := h1.b.t.mp.lookup (P := Try.prog) (T := 136) kint Try.underlying136 zint p0 false
        have l2 := h1.b.t.mp.lookup (P := Try.prog) (T := 136) kint Try.underlying136 zint q2 false
        rw [HGm.out.1] at l1
        rw [HGm.out.2] at l2
        exact ⟨h1.b.map.1, ⟨by simp [World.cell?, hp], by simp [World.cell?, hp]⟩, ⟨by simp [World.cell?, hq], by simp [World.cell?, hq]⟩, l1, l2⟩
      have HKP := Lib.hid hS12
      have l12 : b12 < X3.heap.size := H3'.out.b.map.2
      clear hS12
      go_cut [27, 28] from 138 to 151 (fun u v wx => ∃ bx bw, u = .pointer (some ⟨bx, 0, none⟩) ∧ v = .pointer (some ⟨bw, 0, none⟩) ∧ Below X3.heap.size X3 wx ∧ wx.heap[bx]? = some (.cells #[.int .i64 p0, .int .i64 p1] 39 (0, 0)) ∧ wx.heap[bw]? = some (.cells #[.int .i64 q2, .int .i64 q3] 39 (0, 0)))
      case first =>
        go_region_held3 (fun Y => Y.cell? ⟨b12, 0, none⟩ = some (.map (some m)) ∧ (Y.cell? ⟨bp, 0, none⟩ = some (.int .i64 p0) ∧ Y.cell? ⟨bp, 1, none⟩ = some (.int .i64 p1)) ∧ (Y.cell? ⟨bq, 0, none⟩ = some (.int .i64 q2) ∧ Y.cell? ⟨bq, 1, none⟩ = some (.int .i64 q3)) ∧
          (Instr.lookup 136 (.map (some m)) (.int .i64 p0) false).run Try.prog Y = .ok (.int .i64 p0) Y ∧ (Instr.lookup 136 (.map (some m)) (.int .i64 q2) false).run Try.prog Y = .ok (.int .i64 q2) Y)
          (exact HKP.out _ (by (repeat (first | exact Below.refl _ _ | (with_reducible refine Below.drew ?_) | (with_reducible refine Below.alloc ?_ (by (try simp); (try omega)) _) | (with_reducible refine Below.setCell ?_ (by (try simp); (try omega)) _) | (with_reducible refine Below.trans ?_ (Below.mono (by assumption) (by (try simp); (try omega)))))))) (fail)
        all_goals
          go_wp2_with fail
          go_meet
          case rel =>
            refine ⟨_, _, rfl, rfl, by (repeat (first | exact Below.refl _ _ | (with_reducible refine Below.drew ?_) | (with_reducible refine Below.alloc ?_ (by (try simp); (try omega)) _) | (with_reducible refine Below.setCell ?_ (by (try simp); (try omega)) _) | (with_reducible refine Below.trans ?_ (Below.mono (by assumption) (by (try simp); (try omega)))))), ?_, ?_⟩
            · first | exact two_fst _ _ _ | exact two_snd _ _ _
            · first | exact two_fst _ _ _ | exact two_snd _ _ _
      case rest =>
        obtain ⟨bx, bw, rfl, rfl, hbx, hx, hw⟩ := hcut
        have HX := Lib.hid (H3'.out.below hbx)
        have HXX := Lib.hid (And.intro hx hw)
        clear hx hw hbx
        iterate 80 (first | (with_reducible refine at_seq3 38 ?_) | (with_reducible refine at_seq2 38 ?_) | (with_reducible refine at_seq 38 ?_) | go_values | go_skip | go_guarded | go_step | go_upon | go_back | go_simp)
        refine absW (fun X4 => Hid (S2 w w0 As n cap A b10 b11 b12 b13 m f C K Ps (tidyW (Ps.take k) W) g D (some ⟨r, 0, none⟩) c X4) ∧ X4.heap[bx]? = some (.cells #[.int .i64 p0, .int .i64 p1] 39 (0, 0)) ∧ X4.heap[bw]? = some (.cells #[.int .i64 q2, .int .i64 q3] 39 (0, 0))) ⟨HX, HXX.out.1, HXX.out.2⟩ ?_
        clear HX HXX HKP l12 H3' hbp hbq hP hQ2 hR2
        rintro X4 ⟨H4, hx, hw⟩
        have x0 : X4.cell? ⟨bx, 0, none⟩ = some (.int .i64 p0) := by simp [World.cell?, hx]
        have x1 : X4.cell? ⟨bx, 1, none⟩ = some (.int .i64 p1) := by simp [World.cell?, hx]
        have w0' : X4.cell? ⟨bw, 0, none⟩ = some (.int .i64 q2) := by simp [World.cell?, hw]
        have w1 : X4.cell? ⟨bw, 1, none⟩ = some (.int .i64 q3) := by simp [World.cell?, hw]
        have hbx := heap_lt hx
        have hbw := heap_lt hw
        have hTl : (tidyW (Ps.take k) W).length ≤ 40000 := by
          have h1 : (tidyW (Ps.take k) W).length ≤ (Ps.take k).length := List.length_filterMap_le _ _
          rw [List.length_take] at h1; omega
        have HSn : Hid (tidyW (Ps.take (k + 1)) W = tidyW (Ps.take k) W ++ if bef (p0, p1) (q2, q3) = true then [((p0, p1), (q2, q3))] else []) := HSN.out
        clear HSN
        generalize tidyW (Ps.take k) W = T at H4 hTl HSn
        by_cases hb : bef (p0, p1) (q2, q3) = true
        · rw [if_pos hb] at HSn
          have hb' : p0 < q2 ∨ p0 = q2 ∧ p1 < q3 := by simpa [bef] using hb
          obtain ⟨Vt, ct, z0, z1, hrow, happ⟩ := H4.out.b.t.netT
          have HRow : Hid (Row (X4.alloc (.cells #[.int .i64 p0, .int .i64 p1, .int .i64 q2, .int .i64 q3] 55)) 55 4 (.slice Vt T.length ct) T.length (wrvals T)) := hrow.alloc _
          have HSrc : Hid (Src (X4.alloc (.cells #[.int .i64 p0, .int .i64 p1, .int .i64 q2, .int .i64 q3] 55)) (some ⟨X4.heap.size, 0, none⟩) 1 4 [.int .i64 p0, .int .i64 p1, .int .i64 q2, .int .i64 q3]) :=
            Src.block (cs := #[.int .i64 p0, .int .i64 p1, .int .i64 q2, .int .i64 q3]) (t := 55) (fr := (0, 0)) (heap_alloc_new X4 _) rfl (by simp [Value.oneCell'])
          have HB63 : T.length + 1 ≤ maxLen := by simp only [maxLen]; omega
          have HB47 : (T.length + 1) * 32 ≤ 140737488355328 := by omega
          have HAp := Lib.hid happ
          clear hrow happ hb
          rcases hb' with h1 | ⟨h1, h2⟩
          · go_wp2_with (at_builtin; go_loud (refine inPlain rfl (wpo_row_append _ _ _ rfl i0 _ 32 Try.underlying65 hi0 hi1 hi2 hi3 rfl rfl HRow.out _ 1 1 rfl [.int .i64 p0, .int .i64 p1, .int .i64 q2, .int .i64 q3] HSrc.out HB63 HB47 ?_)); intro sv5 w5 r5 k5 o5; obtain ⟨V5, cp5, rfl, hc5⟩ := r5.len
                         obtain ⟨⟨z0, z1, z2⟩, hst, hkn⟩ := HAp.out _ w5 V5 cp5 (p0, p1) (q2, q3) k5 o5 r5
                         have HST := Lib.hid (H4.out.kn hst hkn)
                         clear hst hkn)
            go_roundw
            case rel => exact ⟨k + 1, by go_num, by omega, by rw [HSn.out]; exact HST⟩
            case measure => simp [intOf]; omega
          · have h1' : ¬ p0 < q2 := by omega
            have h1b : (p0 == q2) = true := by simpa using h1
            clear h1
            go_wp2_with (at_builtin; go_loud (refine inPlain rfl (wpo_row_append _ _ _ rfl i0 _ 32 Try.underlying65 hi0 hi1 hi2 hi3 rfl rfl HRow.out _ 1 1 rfl [.int .i64 p0, .int .i64 p1, .int .i64 q2, .int .i64 q3] HSrc.out HB63 HB47 ?_)); intro sv5 w5 r5 k5 o5; obtain ⟨V5, cp5, rfl, hc5⟩ := r5.len
                         obtain ⟨⟨z0, z1, z2⟩, hst, hkn⟩ := HAp.out _ w5 V5 cp5 (p0, p1) (q2, q3) k5 o5 r5
                         have HST := Lib.hid (H4.out.kn hst hkn)
                         clear hst hkn)
            go_roundw
            case rel => exact ⟨k + 1, by go_num, by omega, by rw [HSn.out]; exact HST⟩
            case measure => simp [intOf]; omega
        · rw [if_neg hb, List.append_nil] at HSn
          have hb' : ¬ p0 < q2 ∧ (p0 = q2 → ¬ p1 < q3) := by
            simp [bef] at hb
            exact ⟨by omega, fun h => by have := hb.2 h; omega⟩
          obtain ⟨h1, h2⟩ := hb'
          clear hb
          by_cases h3 : p0 = q2
          · have h4 := h2 h3
            have h1b : (p0 == q2) = true := by simpa using h3
            clear h2 h3
            go_wp2_with fail
            go_roundw
            case rel => exact ⟨k + 1, by go_num, by omega, by rw [HSn.out]; exact H4⟩
            case measure => simp [intOf]; omega
          · have h1b : (p0 == q2) = false := by simpa using h3
            clear h2 h3
            go_wp2_with fail
            go_roundw
            case rel => exact ⟨k + 1, by go_num, by omega, by rw [HSn.out]; exact H4⟩
            case measure => simp [intOf]; omega
    · obtain rfl : k = Ps.length := by omega
      rw [List.take_length] at HR
      iterate 80 (first | (with_reducible refine at_seq3 41 ?_) | (with_reducible refine at_seq2 41 ?_) | (with_reducible refine at_seq 41 ?_) | go_values | go_skip | go_guarded | go_step | go_upon | go_back | go_simp)
      exact hnext.out _ _ ⟨rfl, rfl, rfl, rfl, rfl, rfl, rfl, rfl, rfl, rfl, rfl, rfl, trivial⟩ HR.out.b HR.out.d
end
end Go.Proofs.Ythbobooiedcofaa
