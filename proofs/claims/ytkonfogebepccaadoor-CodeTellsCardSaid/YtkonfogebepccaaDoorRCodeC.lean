/-
  Contract of skeinref12.Code: entry.
-/
import Derived.Test.YtkonfogebepccaaDoorRCode
/-
  Contract of skeinref12.Code.
-/
namespace Go.Proofs.YtkonfogebepccaaDoor
open Go.RowKit
attribute [local go_sem] cell_set
set_option maxRecDepth 100000
set_option linter.unusedVariables false

section
variable (Q : Exit → Act → World → Prop) (w : World) (pn : Int → Nat) (cs : List Int) (f : Nat) (W : List (Pt × Pt)) (b1 o1 b2 o2 b3 o3 : Nat) (c1 c2 c3 M B n : Nat)
set_option maxHeartbeats 4000000 in
theorem rc_7 (a : Act) (L : List Int) (VA VL VF : Option Addr) (ca cL cF : Nat) (p : Pt) (CK : Nat → List Int) (CJ : Nat → Nat → List Int) (hn : n = cs.length) (hn2 : n ≤ 10000) (hM : firstN pn cs f cs.length = M) (hM2 : M ≤ 100000) (hfr : f ≤ 100) (h7 : ∀ a, pn a ≤ 7) (hok : Hid (NetOk pn cs f W))
    (hp : Hid (isPt pn cs f p = true)) (HN : Hid (NLk pn cs f W (some ⟨b1, o1, none⟩) (some ⟨b2, o2, none⟩) (some ⟨b3, o3, none⟩) c1 c2 c3 M B w)) (HA : Hid (IntsRd w VA cs)) (HLl : Hid (IntsRd w VL L)) (HFd : Hid (IntsRd w VF (fdZ n L))) (hfn : Fnd n L)
    (HHas : Hid (((startP (lkM W) p).1 < 0 ∨ (startP (lkM W) p).1 ∈ L) ∧ ∀ q ∈ L.flatMap (rowP pn cs (lkM W)), q.1 < 0 ∨ q.1 ∈ L)) (HCS : Hid (CodeS (rowP pn cs (lkM W)) cs (fdOf n L) (startP (lkM W) p) L CK CJ))
    (hret : Hid (∀ a' X' V c, FrN 106 [] [(6, .slice V (CK L.length).length c)] a' → Fresh w X' 3 1 (CK L.length).length (.slice V (CK L.length).length c) (ivals (CK L.length)) → Q .ret a' X'))
    (ha : FrN 106 [] [(1, .slice VA n ca), (2, .int .i64 (plc pn cs f p : Int)), (3, .pointer (some ⟨B, 0, none⟩)), (7, .slice VL L.length cL), (8, .slice VF n cF)] a) : (rcT 7).wp Tryd.prog Q a w := by
  obtain ⟨U, rfl, e1, e2, e3, e7, e8, -⟩ := ha.openRC
  unfold FrRC
  simp only [e1, e2, e3, e7, e8]
  clear e1 e2 e3 e7 e8 ha
  show (Code.seq _ _).wp _ _ _ _
  have hbd : Hid (∀ c, c < n → 0 ≤ (fdZ n L).getD c 0 ∧ (fdZ n L).getD c 0 ≤ 10000) := fdZ_bd (by have := hfn.len; omega)
  have HK0 : Hid ((CK 0).length = 1) := by show _ = _; rw [HCS.out.k0]; rfl
  obtain ⟨g1, g2, g3⟩ := HN.out.link2 hok.out hp.out
  have hq := (lkM_eq hok.out hp.out).2
  obtain ⟨d1, d2, d3, d4⟩ := HN.out.port2 hq
  obtain ⟨f1, f2, f3, f4⟩ := HN.out.port2 hp.out
  have hb := HN.out.bx
  rw [← hn] at hb
  have n0 : w.cell? ⟨B, 0, none⟩ = some (.slice (some ⟨b1, o1, none⟩) M c1) := by simp [World.cell?, hb]
  have n1 : w.cell? ⟨B, 1, none⟩ = some (.slice (some ⟨b2, o2, none⟩) M c2) := by simp [World.cell?, hb]
  have hBl := heap_lt hb
  have HSP : Hid (isPt pn cs f (startP (lkM W) p) = true) := startP_is hok.out hp.out
  have HMz : Hid (markN0 (fdZ n L) (startP (lkM W) p) = markN0 (fdOf n L) (startP (lkM W) p)) := markZ HHas.out.1 (by rw [hn]; exact isPt_lt HSP.out)
  have HFin : Hid (∀ (w6 : World), ∀ mu, Below w.heap.size w w6 → CK 0 = [mu] → Fresh w (w6.alloc (.cells #[.int .i64 mu] 3)) 3 1 1 (.slice (some ⟨w6.heap.size, 0, none⟩) 1 1) (ivals (CK 0))) := fun w6 mu h e => by rw [e]; exact fresh_int1 h mu
  have HK1 : Hid (CK 0 = [markN0 (fdZ n L) (startP (lkM W) p)]) := by show _ = _; rw [HMz.out, HCS.out.k0]
  have HS1 : Hid (∀ s, startP (lkM W) p = s → isPt pn cs f s = true ∧ CK 0 = [markN0 (fdZ n L) s]) := fun s hs => by rw [← hs]; exact ⟨HSP.out, HK1.out⟩
  have HS0 : Hid (startP (lkM W) p = if p.1 < 0 then lkM W p else p) := rfl
  generalize lkM W p = q at *
  obtain ⟨kp, hkp⟩ : ∃ k, plc pn cs f p = k := ⟨_, rfl⟩
  obtain ⟨kq, hkq⟩ : ∃ k, plc pn cs f q = k := ⟨_, rfl⟩
  rw [hkp] at g2 g3 f2 f3 f4 ⊢
  rw [hkq] at g3 d2 d3 d4
  obtain ⟨p1, p2⟩ := p
  obtain ⟨q1, q2⟩ := q
  dsimp only at d3 d4 f3 f4 HS0
  have hk1 : (kp : Int) < (M : Int) := by omega
  have hk2 : (kq : Int) < (M : Int) := by omega
  have HNM := Lib.hid (And.intro hn hM)
  clear hkp hkq hq hb hn hM
  go_upto_region 8 with fail
  refine absW (fun Y => Below w.heap.size w Y ∧ Y.heap[w.heap.size]? = some (.cells #[.int .i64 p1, .int .i64 p2] 83 (0, 0))) ⟨by (repeat (first | exact Below.refl _ _ | (with_reducible refine Below.drew ?_) | (with_reducible refine Below.alloc ?_ (by (try simp); (try omega)) _) | (with_reducible refine Below.setCell ?_ (by (try simp); (try omega)) _) | (with_reducible refine Below.trans ?_ (Below.mono (by assumption) (by (try simp); (try omega)))))), heap_alloc_new w _⟩ ?_
  rintro Y ⟨hbY, y0⟩
  obtain ⟨hcY, hfY⟩ := bcell hbY
  have x0 : Y.cell? ⟨w.heap.size, 0, none⟩ = some (.int .i64 p1) := by simp [World.cell?, y0]
  have x1 : Y.cell? ⟨w.heap.size, 1, none⟩ = some (.int .i64 p2) := by simp [World.cell?, y0]
  have hyl := heap_lt y0
  by_cases hp0 : p1 < 0
  · have HS2 := HS1.out _ (HS0.out.trans (if_pos hp0))
    have HQ := Lib.hid HS2.1
    have HK2 := Lib.hid HS2.2
    have z0 : Y.frozen? ⟨w.heap.size, 0, none⟩ = false := by simp [World.frozen?, y0]
    have z1 : Y.frozen? ⟨w.heap.size, 1, none⟩ = false := by simp [World.frozen?, y0]
    have m0 := (hcY B 0 hBl).trans n0
    have m1 := (hcY B 1 hBl).trans n1
    have g0 := (hcY b2 (o2 + kp) g1).trans g3
    have d0 := (hcY b1 (o1 + kq * 2) d1).trans d3
    have d5 := (hcY b1 (o1 + kq * 2 + 1) d1).trans d4
    have s1 : B < Y.heap.size := Nat.lt_of_lt_of_le hBl hbY.size
    have s2 : b1 < Y.heap.size := Nat.lt_of_lt_of_le d1 hbY.size
    have s3 : b2 < Y.heap.size := Nat.lt_of_lt_of_le g1 hbY.size
    have HY := Lib.hid (And.intro hbY y0)
    clear hbY y0 hcY hfY HS2
    go_upto_region 9 with fail
    (refine region_tail 9 (by kernel_rfl) (by kernel_rfl) ?_; simp only [List.take_succ_cons, List.take_zero, List.drop_succ_cons, List.drop_zero]; repeat still_step; try refine wpStill_nil ?_)
    go_upto_region 10 with fail
    refine absW (fun Z => Below w.heap.size w Z ∧ Z.heap[w.heap.size]? = some (.cells #[.int .i64 q1, .int .i64 q2] 83 (0, 0))) ?wld ?_
    case wld => (refine ⟨(HY.out.1.drew.setCell (p := ⟨w.heap.size, _, none⟩) (Nat.le_refl _) _).setCell (p := ⟨w.heap.size, _, none⟩) (Nat.le_refl _) _, ?_⟩; have r4 := HY.out.2; simp [World.setCell, Array.getElem?_modify, World.drew, r4])
    rintro Z ⟨hZ, hZb⟩
    have z0 : Z.cell? ⟨w.heap.size, 0, none⟩ = some (.int .i64 q1) := by simp [World.cell?, hZb]
    have z1 : Z.cell? ⟨w.heap.size, 1, none⟩ = some (.int .i64 q2) := by simp [World.cell?, hZb]
    have zl := heap_lt hZb
    have HZ := Lib.hid hZ
    clear hZ hZb x0 x1 hyl
    iterate 80 (first
      | (go_at_call 107
         refine (rmark VF n cF (fdZ n L) Z pn cs f (q1, q2) (Lib.hid (HFd.out.below HZ.out)) (fdZ_len _ _) HNM.out.1 hn2 HQ.out hfr h7 hbd.out).mono ?_
         rintro e w6 ⟨rfl, hb6⟩
         have HB6 := Lib.hid (HZ.out.trans (hb6.mono HZ.out.size))
         clear hb6)
      | (with_reducible refine at_seq3 11 ?_) | (with_reducible refine at_seq2 11 ?_) | (with_reducible refine at_seq 11 ?_) | go_values | go_skip | go_guarded | go_step | go_upon | go_back | go_simp)
    have HF6 := Lib.hid (HFin.out w6 _ HB6.out HK2.out)
    exact rc_11 _ w pn cs f W b1 o1 b2 o2 b3 o3 c1 c2 c3 M B n _ _ L VA VL VF _ ca cL cF 1 _ CK CJ HNM.out.1 hn2 HNM.out.2 hM2 hfr h7 hok HN HA HLl HFd hfn (Lib.hid fun q hq => HHas.out.2 q hq) HCS hret HK0 HF6 ⟨rfl, rfl, rfl, rfl, rfl, rfl, rfl, trivial⟩
  · have HS2 := HS1.out _ (HS0.out.trans (if_neg hp0))
    have HQ := Lib.hid HS2.1
    have HK2 := Lib.hid HS2.2
    have HY := Lib.hid (And.intro hbY y0)
    clear hbY y0 hcY hfY HS2
    go_upto_region 10 with fail
    refine absW (fun Z => Below w.heap.size w Z ∧ Z.heap[w.heap.size]? = some (.cells #[.int .i64 p1, .int .i64 p2] 83 (0, 0))) ?wld ?_
    case wld => exact HY.out
    rintro Z ⟨hZ, hZb⟩
    have z0 : Z.cell? ⟨w.heap.size, 0, none⟩ = some (.int .i64 p1) := by simp [World.cell?, hZb]
    have z1 : Z.cell? ⟨w.heap.size, 1, none⟩ = some (.int .i64 p2) := by simp [World.cell?, hZb]
    have zl := heap_lt hZb
    have HZ := Lib.hid hZ
    clear hZ hZb x0 x1 hyl
    iterate 80 (first
      | (go_at_call 107
         refine (rmark VF n cF (fdZ n L) Z pn cs f (p1, p2) (Lib.hid (HFd.out.below HZ.out)) (fdZ_len _ _) HNM.out.1 hn2 HQ.out hfr h7 hbd.out).mono ?_
         rintro e w6 ⟨rfl, hb6⟩
         have HB6 := Lib.hid (HZ.out.trans (hb6.mono HZ.out.size))
         clear hb6)
      | (with_reducible refine at_seq3 11 ?_) | (with_reducible refine at_seq2 11 ?_) | (with_reducible refine at_seq 11 ?_) | go_values | go_skip | go_guarded | go_step | go_upon | go_back | go_simp)
    have HF6 := Lib.hid (HFin.out w6 _ HB6.out HK2.out)
    exact rc_11 _ w pn cs f W b1 o1 b2 o2 b3 o3 c1 c2 c3 M B n _ _ L VA VL VF _ ca cL cF 1 _ CK CJ HNM.out.1 hn2 HNM.out.2 hM2 hfr h7 hok HN HA HLl HFd hfn (Lib.hid fun q hq => HHas.out.2 q hq) HCS hret HK0 HF6 ⟨rfl, rfl, rfl, rfl, rfl, rfl, rfl, trivial⟩
end
end Go.Proofs.YtkonfogebepccaaDoor
namespace Go.Proofs.YtkonfogebepccaaDoor
open Go.RowKit
attribute [local go_sem] cell_set
set_option maxRecDepth 100000
set_option linter.unusedVariables false

theorem wlk_codeN (pn : Int → Nat) (cs : List Int) (Lk : Pt → Pt) (p : Pt) : codeK cs (rowP pn cs Lk) (fdOf cs.length (wlk pn cs Lk p)) (startP Lk p) (wlk pn cs Lk p) = codeN pn cs Lk p := rfl
set_option maxHeartbeats 4000000 in
/-- The code from a port of a net that may be. -/
theorem rcode (pn : Int → Nat) (cs : List Int) (f : Nat) (W : List (Pt × Pt)) (V1 V2 V3 VA : Option Addr) (c1 c2 c3 ca M n : Nat) (p : Pt) (at' : Int) (w : World) (hn : n = cs.length) (hn2 : n ≤ 10000) (hM : firstN pn cs f cs.length = M) (hM2 : M ≤ 100000) (hfr : f ≤ 100) (h7 : ∀ a, pn a ≤ 7) (hok : Hid (NetOk pn cs f W)) (hp : Hid (isPt pn cs f p = true)) (hat : at' = (plc pn cs f p : Int))
    (HR1 : Hid (PtsRd w V1 (allPs pn cs f))) (HR2 : Hid (IntsRd w V2 (lkK pn cs f W W.length))) (HR3 : Hid (IntsRd w V3 (firstL pn cs f cs.length ++ [(firstN pn cs f cs.length : Int)]))) (HA : Hid (IntsRd w VA cs)) :
    Calls Tryd.prog 91 #[.agg #[.slice V1 M c1, .slice V2 M c2, .slice V3 (n + 1) c3, .int .i64 (n : Int)], .slice VA n ca, .int .i64 at'] w fun e w' => ∃ V c, e = .returned (.slice V (codeN pn cs (lkM W) p).length c) ∧ Fresh w w' 3 1 (codeN pn cs (lkM W) p).length (.slice V (codeN pn cs (lkM W) p).length c) (ivals (codeN pn cs (lkM W) p)) := by
  subst hat
  obtain ⟨b1, o1, rfl, hb1, -⟩ := HR1.out (plc pn cs f p) (by rw [allPs_len]; exact plc_lt pn hp.out)
  obtain ⟨b2, o2, rfl, hb2, -⟩ := HR2.out (plc pn cs f p) (by rw [lkK_len]; exact plc_lt pn hp.out)
  obtain ⟨b3, o3, rfl, hb3, -⟩ := HR3.out 0 (by simp)
  obtain ⟨L, hL⟩ : ∃ L, wlk pn cs (lkM W) p = L := ⟨_, rfl⟩
  have hs : (startP (lkM W) p).1 < cs.length := isPt_lt (startP_is hok.out hp.out)
  have hlk : ∀ x, (lkM W x).1 < cs.length := lkM_lt hok.out
  have hfn : Fnd n L := by rw [hn, ← hL]; exact wlk_fnd hlk hs
  have hhas : Hid (((startP (lkM W) p).1 < 0 ∨ (startP (lkM W) p).1 ∈ L) ∧ ∀ q ∈ L.flatMap (rowP pn cs (lkM W)), q.1 < 0 ∨ q.1 ∈ L) := by
    have h := wlk_has (pn := pn) (p := p) hlk hs
    rw [hL] at h
    exact ⟨h _ (by simp), fun q hq => h q (List.mem_cons_of_mem _ hq)⟩
  obtain ⟨CK, CJ, hCS⟩ := codeS (rowP pn cs (lkM W)) cs (fdOf n L) (startP (lkM W) p) L (fun c => by rw [rowP_len]; exact h7 _)
  have hCA : CK L.length = codeN pn cs (lkM W) p := by rw [hCS.all, hn, ← hL]; exact wlk_codeN pn cs (lkM W) p
  have HCS := Lib.hid hCS
  have HL := Lib.hid hL
  have HFn : Hid (Fnd n L) := hfn
  rw [← hCA]
  have HCA := Lib.hid hCA
  have HNM := Lib.hid (And.intro hn hM)
  have hLn := hfn.len
  clear hCS hL hfn hCA hs hlk hn hM
  obtain ⟨kp, hkp⟩ : ∃ k, plc pn cs f p = k := ⟨_, rfl⟩
  rw [hkp]
  have HKp := Lib.hid hkp
  clear hkp
  obtain ⟨i0, hi0, hi1, hi2, hi3⟩ := info_parts int_info
  go_enter Tryd.func91, Tryd.ntmps91
  go_upto_region 1 with fail
  refine absW (fun X => Below w.heap.size w X ∧ X.heap[w.heap.size]? = some (.cells #[.slice (some ⟨b1, o1, none⟩) M c1, .slice (some ⟨b2, o2, none⟩) M c2, .slice (some ⟨b3, o3, none⟩) (n + 1) c3, .int .i64 (n : Int)] 141 (0, 0))) ⟨by (repeat (first | exact Below.refl _ _ | (with_reducible refine Below.drew ?_) | (with_reducible refine Below.alloc ?_ (by (try simp); (try omega)) _) | (with_reducible refine Below.setCell ?_ (by (try simp); (try omega)) _) | (with_reducible refine Below.trans ?_ (Below.mono (by assumption) (by (try simp); (try omega)))))), heap_alloc_new w _⟩ ?_
  rintro X ⟨hbX, hx⟩
  have HX := Lib.hid (And.intro hbX hx)
  have n0 : X.cell? ⟨w.heap.size, 0, none⟩ = some (.slice (some ⟨b1, o1, none⟩) M c1) := by simp [World.cell?, hx]
  have n1 : X.cell? ⟨w.heap.size, 1, none⟩ = some (.slice (some ⟨b2, o2, none⟩) M c2) := by simp [World.cell?, hx]
  have n2 : X.cell? ⟨w.heap.size, 2, none⟩ = some (.slice (some ⟨b3, o3, none⟩) (n + 1) c3) := by simp [World.cell?, hx]
  have n3 : X.cell? ⟨w.heap.size, 3, none⟩ = some (.int .i64 (n : Int)) := by simp [World.cell?, hx]
  have hxl := heap_lt hx
  have HW : Hid (Calls Tryd.prog 106 #[.agg #[.slice (some ⟨b1, o1, none⟩) M c1, .slice (some ⟨b2, o2, none⟩) M c2, .slice (some ⟨b3, o3, none⟩) (n + 1) c3, .int .i64 (n : Int)], .int .i64 (kp : Int)] X fun e w' => ∃ V c, e = .returned (.slice V L.length c) ∧ Fresh X w' 3 1 L.length (.slice V L.length c) (ivals L)) := by
    have h := rwalk pn cs f W (some ⟨b1, o1, none⟩) (some ⟨b2, o2, none⟩) (some ⟨b3, o3, none⟩) c1 c2 c3 M n p (kp : Int) X HNM.out.1 hn2 HNM.out.2 hM2 hok hp.out (by rw [HKp.out]) (Lib.hid (HR1.out.below hbX)) (Lib.hid (HR2.out.below hbX)) (Lib.hid (HR3.out.below hbX))
    rw [HL.out] at h
    exact h
  clear hbX hx
  go_upto_region 2 with (go_at_call 106
                         refine HW.out.mono ?_
                         rintro e w1 ⟨V, c, rfl, hf1⟩
                         have HF1 := Lib.hid hf1
                         clear hf1)
  have HX1 := Lib.hid (And.intro (HX.out.1.trans (HF1.out.2.2.mono HX.out.1.size)) ((HF1.out.2.2.block _ (heap_lt HX.out.2)).trans HX.out.2))
  have hx1 := HX1.out.2
  clear n0 n1 n2 n3 hxl
  have n0 : w1.cell? ⟨w.heap.size, 0, none⟩ = some (.slice (some ⟨b1, o1, none⟩) M c1) := by simp [World.cell?, hx1]
  have n3 : w1.cell? ⟨w.heap.size, 3, none⟩ = some (.int .i64 (n : Int)) := by simp [World.cell?, hx1]
  have hxl := heap_lt hx1
  have HN1 : Hid (NLk pn cs f W (some ⟨b1, o1, none⟩) (some ⟨b2, o2, none⟩) (some ⟨b3, o3, none⟩) c1 c2 c3 M w.heap.size w1) := ⟨by rw [← HNM.out.1]; exact HX1.out.2, HR1.out.below HX1.out.1, HR2.out.below HX1.out.1, HR3.out.below HX1.out.1, HNM.out.2⟩
  have HL1 : Hid (IntsRd w1 V L) := HF1.out.1.ints
  have HA1 : Hid (IntsRd w1 VA cs) := HA.out.below HX1.out.1
  clear hx1
  go_upto_region 3 with (at_make; refine wpList_make_row _ rfl _ _ _ rfl _ i0 _ (by rfl) hi0 hi1 hi2 (by rfl) .i64 .i64 n (by rfl) (by rfl) (by rw [hi3]; omega) (by omega) ?_)
  refine absW (fun Y => Below w1.heap.size w1 Y ∧ Row Y 3 1 (.slice (some ⟨w1.heap.size, 0, none⟩) n n) n (ivals (fdZ n (L.take 0)))) ⟨by (repeat (first | exact Below.refl _ _ | (with_reducible refine Below.drew ?_) | (with_reducible refine Below.alloc ?_ (by (try simp); (try omega)) _) | (with_reducible refine Below.setCell ?_ (by (try simp); (try omega)) _) | (with_reducible refine Below.trans ?_ (Below.mono (by assumption) (by (try simp); (try omega)))))), ?_⟩ ?_
  · rw [List.take_zero, fdZ_nil]
    exact ⟨by simp [ivals], .inr ⟨w1.heap.size, n, _, rfl, heap_alloc_new w1 _, Nat.le_refl _, by unfold maxLen; omega, by simp [size_madeCells], by rw [toList_madeCells_one]; simp [ivals]⟩⟩
  rintro Y ⟨hbY, hrow⟩
  have HY := Lib.hid (And.intro hbY hrow)
  clear hbY hrow n0 n3 hxl
  have hfin : Hid (∀ a' X' V' c', FrN 106 [] [(6, .slice V' (CK L.length).length c')] a' → Fresh w X' 3 1 (CK L.length).length (.slice V' (CK L.length).length c') (ivals (CK L.length)) → bodyPost Tryd.prog Tryd.f91 (fun e w' => ∃ V c, e = .returned (.slice V (CK L.length).length c) ∧ Fresh w w' 3 1 (CK L.length).length (.slice V (CK L.length).length c) (ivals (CK L.length))) .ret a' X') := by
    rintro a' X' V' c' ⟨hsz, hdf, h4, _⟩ hr
    have g4 : a'.tmps[6]'(by rw [hsz]; omega) = .slice V' (CK L.length).length c' := (Array.getElem?_eq_some_iff.1 h4).2
    exact bodyPost_ret (v := .slice V' (CK L.length).length c') (by simp only [results, Tryd.results91]; go_simp) hdf ⟨V', c', rfl, hr⟩
  go_wp2_with fail
  go_loopw [9] (fun i wr => ∃ j : Nat, i = .int .i64 j ∧ j ≤ L.length ∧ Hid (Below w1.heap.size w1 wr ∧ Row wr 3 1 (.slice (some ⟨w1.heap.size, 0, none⟩) n n) n (ivals (fdZ n (L.take j))))) (fun i _ => L.length - (intOf i).toNat)
  case atStart => exact ⟨0, rfl, Nat.zero_le _, HY⟩
  case round =>
    obtain ⟨j, rfl, hj, HR⟩ := hrel
    clear HY
    by_cases hlt : j < L.length
    · obtain ⟨bl, ol, rfl, hbl, ql⟩ := HL1.out j hlt
      have hcx := HFn.out.lt (L.getD j 0) (by rw [List.getD_eq_getElem?_getD, List.getElem?_eq_getElem hlt]; exact List.getElem_mem hlt)
      have HT := Lib.hid (fun c (e : L.getD j 0 = ((c : Nat) : Int)) => fdZ_take (n := n) HFn.out.nd hlt e)
      generalize L.getD j 0 = x at ql hcx HT
      obtain ⟨c, rfl⟩ := Int.eq_ofNat_of_zero_le hcx.1
      have hc : (c : Int) < (n : Int) := hcx.2
      have hq := ((bcell HR.out.1).1 bl (ol + j) hbl).trans ql
      have hz1 : bl < wr.heap.size := Nat.lt_of_lt_of_le hbl HR.out.1.size
      have hz2 : w1.heap.size < wr.heap.size := HR.out.2.lt _ (by simp [ownB])
      have hfz := HR.out.2.frozenAt c
      obtain ⟨v0, hv0⟩ : ∃ v, wr.cell? ⟨w1.heap.size, c, none⟩ = some v := ⟨_, (HR.out.2.cellAt c (by omega)).trans (List.getElem?_eq_getElem (by simp [ivals, fdZ_len]; omega))⟩
      have hj1 : (j : Int) < (L.length : Int) := by omega
      clear ql hbl hcx
      go_wp2_with fail
      refine ⟨?rel, ?measure⟩
      case rel =>
        refine ⟨j + 1, by go_num, by omega, Lib.hid ⟨HR.out.1.setCell (p := ⟨w1.heap.size, _, none⟩) (Nat.le_refl _) _, ?_⟩⟩
        rw [HT.out c rfl, ← ivals_set]
        exact HR.out.2.set c _
      case measure => simp [intOf]; omega
    · obtain rfl : j = L.length := by omega
      have HFd : Hid (IntsRd wr (some ⟨w1.heap.size, 0, none⟩) (fdZ n L)) := by
        have h := HR.out.2
        rw [List.take_length] at h
        exact Row.ints (cap := n) (by rw [fdZ_len]; exact h)
      iterate 80 (first | (with_reducible refine at_seq3 7 ?_) | (with_reducible refine at_seq2 7 ?_) | (with_reducible refine at_seq 7 ?_) | go_values | go_skip | go_guarded | go_step | go_upon | go_back | go_simp)
      refine rc_7 _ wr pn cs f W b1 o1 b2 o2 b3 o3 c1 c2 c3 M w.heap.size n _ L VA V (some ⟨w1.heap.size, 0, none⟩) ca c n p CK CJ HNM.out.1 hn2 HNM.out.2 hM2 hfr h7 hok hp (Lib.hid (HN1.out.below HR.out.1)) (Lib.hid (HA1.out.below HR.out.1)) (Lib.hid (HL1.out.below HR.out.1)) HFd HFn.out hhas HCS (Lib.hid fun a' X' V' c' hf hr => ?_) ⟨rfl, rfl, rfl, by rw [HKp.out]; rfl, rfl, rfl, rfl, trivial⟩
      exact hfin.out a' X' V' c' hf (hr.from (HX1.out.1.trans (HR.out.1.mono HX1.out.1.size)))
end Go.Proofs.YtkonfogebepccaaDoor
