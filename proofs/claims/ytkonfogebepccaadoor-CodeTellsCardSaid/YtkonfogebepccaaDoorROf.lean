/-
  Contract of skeinref12.Of: the least code from cells of a net that may be.
-/
import Derived.Test.YtkonfogebepccaaDoorRCodeC
import Derived.Test.YtkonfogebepccaaDoorCodeLeast
import Derived.Test.YtkonfogebepccaaDoorCodeCompare
namespace Go.Proofs.YtkonfogebepccaaDoor
open Go.RowKit
attribute [local go_sem] cell_set
set_option maxRecDepth 100000
set_option linter.unusedVariables false

theorem leastN_one (code : Int → List Int) (l : List Int) (h : 0 < l.length) : leastN code (l.take 1) = (l.getD 0 0, code (l.getD 0 0)) := by
  rw [leastN_snoc (j := 0) h]
  unfold leastS leastN
  simp
set_option maxHeartbeats 4000000 in
theorem rof (pn : Int → Nat) (cs : List Int) (f : Nat) (W : List (Pt × Pt)) (V1 V2 V3 VA VI : Option Addr) (c1 c2 c3 ca ci M n m : Nat) (ids : List Int) (w : World) (hn : n = cs.length) (hn2 : n ≤ 10000) (hM : firstN pn cs f cs.length = M) (hM2 : M ≤ 100000) (hfr : f ≤ 100) (h7 : ∀ a, pn a ≤ 7) (hok : Hid (NetOk pn cs f W))
    (HR1 : Hid (PtsRd w V1 (allPs pn cs f))) (HR2 : Hid (IntsRd w V2 (lkK pn cs f W W.length))) (HR3 : Hid (IntsRd w V3 (firstL pn cs f cs.length ++ [(firstN pn cs f cs.length : Int)]))) (HA : Hid (IntsRd w VA cs))
    (HI : Hid (IntsRd w VI ids)) (hm : m = ids.length) (hm0 : 0 < m) (hm2 : m ≤ 100000) (hr : Hid (∀ i, i < ids.length → 0 ≤ ids.getD i 0 ∧ ids.getD i 0 < n ∧ isPt pn cs f (ids.getD i 0, 0) = true)) :
    Calls Tryd.prog 95 #[.agg #[.slice V1 M c1, .slice V2 M c2, .slice V3 (n + 1) c3, .int .i64 (n : Int)], .slice VA n ca, .slice VI m ci] w fun e w' => ∃ V c, e = .returned (.tuple #[.int .i64 (leastN (fun c => codeN pn cs (lkM W) (c, 0)) ids).1, .slice V (leastN (fun c => codeN pn cs (lkM W) (c, 0)) ids).2.length c]) ∧
      Fresh w w' 3 1 (leastN (fun c => codeN pn cs (lkM W) (c, 0)) ids).2.length (.slice V (leastN (fun c => codeN pn cs (lkM W) (c, 0)) ids).2.length c) (ivals (leastN (fun c => codeN pn cs (lkM W) (c, 0)) ids).2) := by
  subst hm
  obtain ⟨code, hcode⟩ : ∃ code : Int → List Int, (fun c => codeN pn cs (lkM W) (c, 0)) = code := ⟨_, rfl⟩
  have hce : ∀ c, codeN pn cs (lkM W) (c, 0) = code c := fun c => congrFun hcode c
  rw [hcode]
  obtain ⟨b3, o3, rfl, hb3, -⟩ := HR3.out 0 (by simp)
  have HLen : Hid (∀ c, isPt pn cs f (c, 0) = true → (code c).length ≤ 100000) := fun c hp => by
    have := codeN_len (pn := pn) (cs := cs) (Lk := lkM W) (p := (c, 0)) h7 (lkM_lt hok.out) (isPt_lt (startP_is hok.out hp))
    rw [hce] at this
    omega
  have HCode : Hid (∀ (Z : World) (c : Nat) (F : Nat), firstN pn cs f c = F → isPt pn cs f ((c : Int), 0) = true → Below w.heap.size w Z → Calls Tryd.prog 91 #[.agg #[.slice V1 M c1, .slice V2 M c2, .slice (some ⟨b3, o3, none⟩) (n + 1) c3, .int .i64 (n : Int)], .slice VA n ca, .int .i64 (F : Int)] Z fun e w' => ∃ V k, e = .returned (.slice V (code c).length k) ∧ Fresh Z w' 3 1 (code c).length (.slice V (code c).length k) (ivals (code c))) := fun Z c F hF hp hb => by
    have h := rcode pn cs f W V1 V2 (some ⟨b3, o3, none⟩) VA c1 c2 c3 ca M n ((c : Int), 0) (F : Int) Z hn hn2 hM hM2 hfr h7 hok hp (by rw [← hF]; exact congrArg Nat.cast (by simpa using (plc_cellw pn cs f c 0).symm)) (Lib.hid (HR1.out.below hb)) (Lib.hid (HR2.out.below hb)) (Lib.hid (HR3.out.below hb)) (Lib.hid (HA.out.below hb))
    rw [hce] at h
    exact h
  have HFi : Hid (∀ (Z : World) (c : Nat), c < n → Below w.heap.size w Z → ∃ F, firstN pn cs f c = F ∧ b3 < Z.heap.size ∧ Z.cell? ⟨b3, o3 + c, none⟩ = some (.int .i64 (F : Int))) := fun Z c hc hb => by
    obtain ⟨b, o, e, hbl, h0⟩ := (HR3.out.below hb) c (by simp [firstL_len]; omega)
    simp only [Option.some.injEq, Addr.mk.injEq, and_true] at e
    obtain ⟨rfl, rfl⟩ := e
    refine ⟨_, rfl, hbl, ?_⟩
    rw [h0, List.getD_eq_getElem?_getD, List.getElem?_append_left (by rw [firstL_len]; omega)]
    simp [firstL, show c < cs.length by omega]
  clear hce hcode hb3 hM hM2 hfr h7 hok hn
  go_enter Tryd.func95, Tryd.ntmps95
  go_upto_region 1 with fail
  refine absW (fun X => Below w.heap.size w X ∧ X.heap[w.heap.size]? = some (.cells #[.slice V1 M c1, .slice V2 M c2, .slice (some ⟨b3, o3, none⟩) (n + 1) c3, .int .i64 (n : Int)] 141 (0, 0))) ⟨by (repeat (first | exact Below.refl _ _ | (with_reducible refine Below.drew ?_) | (with_reducible refine Below.alloc ?_ (by (try simp); (try omega)) _) | (with_reducible refine Below.setCell ?_ (by (try simp); (try omega)) _) | (with_reducible refine Below.trans ?_ (Below.mono (by assumption) (by (try simp); (try omega)))))), heap_alloc_new w _⟩ ?_
  rintro X ⟨hbX, hx⟩
  have HX := Lib.hid (And.intro hbX hx)
  have HC4 : Hid (∀ Z, Below X.heap.size X Z → Z.cell? ⟨w.heap.size, 0, none⟩ = some (.slice V1 M c1) ∧ Z.cell? ⟨w.heap.size, 1, none⟩ = some (.slice V2 M c2) ∧ Z.cell? ⟨w.heap.size, 2, none⟩ = some (.slice (some ⟨b3, o3, none⟩) (n + 1) c3) ∧ Z.cell? ⟨w.heap.size, 3, none⟩ = some (.int .i64 (n : Int)) ∧ w.heap.size < Z.heap.size) := fun Z hb => by
    have hz := (hb.block _ (heap_lt HX.out.2)).trans HX.out.2
    refine ⟨?_, ?_, ?_, ?_, heap_lt hz⟩ <;> simp [World.cell?, hz]
  have HBw : Hid (∀ Z, Below X.heap.size X Z → Below w.heap.size w Z) := fun Z hb => HX.out.1.trans (hb.mono HX.out.1.size)
  have HIx : Hid (IntsRd X VI ids) := HI.out.below hbX
  clear hbX hx
  have HI0 := HIx.out 0 hm0
  obtain ⟨bi, oi, rfl, hbi, g0⟩ := HI0
  rw [Nat.add_zero] at g0
  obtain ⟨r0, r1, r2⟩ := hr.out 0 hm0
  have HL1 := Lib.hid (leastN_one code ids hm0)
  have HLs := Lib.hid (fun j (h : j < ids.length) => leastN_snoc (code := code) h)
  generalize ids.getD 0 0 = x0 at g0 r0 r1 r2 HL1
  obtain ⟨d, rfl⟩ := Int.eq_ofNat_of_zero_le r0
  have hdn : d < n := by omega
  have hd1 : (d : Int) < ((n + 1 : Nat) : Int) := by omega
  have hm1 : (0 : Int) < (ids.length : Int) := by omega
  obtain ⟨F, hF, hb3, f0⟩ := HFi.out X d hdn HX.out.1
  obtain ⟨q0, q1, q2, q3, q4⟩ := HC4.out X (Below.refl _ _)
  have HCd := Lib.hid (fun Z (hb : Below X.heap.size X Z) => HCode.out Z d F hF r2 (HBw.out Z hb))
  have HLd := Lib.hid (HLen.out _ r2)
  clear hF r2 r0 r1
  go_upto_region 2 with fail
  have HKP : Hid (∀ Z, Below X.heap.size X Z → Z.cell? ⟨w.heap.size, 0, none⟩ = some (.slice V1 M c1) ∧ Z.cell? ⟨w.heap.size, 1, none⟩ = some (.slice V2 M c2) ∧ Z.cell? ⟨w.heap.size, 2, none⟩ = some (.slice (some ⟨b3, o3, none⟩) (n + 1) c3) ∧ Z.cell? ⟨w.heap.size, 3, none⟩ = some (.int .i64 (n : Int)) ∧ Z.cell? ⟨b3, o3 + d, none⟩ = some (.int .i64 (F : Int))) := fun Z hb => by
    obtain ⟨x0, x1, x2, x3, _⟩ := HC4.out Z hb
    exact ⟨x0, x1, x2, x3, ((bcell hb).1 b3 (o3 + d) hb3).trans f0⟩
  have hk0 := HKP.out X (Below.refl _ _)
  have r3 : (0 : Int) ≤ (d : Int) := by omega
  have r4 : (d : Int) < (n : Int) + 1 := by omega
  clear q0 q1 q2 q3 f0
  go_region_held3 (fun Z => Z.cell? ⟨w.heap.size, 0, none⟩ = some (.slice V1 M c1) ∧ Z.cell? ⟨w.heap.size, 1, none⟩ = some (.slice V2 M c2) ∧ Z.cell? ⟨w.heap.size, 2, none⟩ = some (.slice (some ⟨b3, o3, none⟩) (n + 1) c3) ∧ Z.cell? ⟨w.heap.size, 3, none⟩ = some (.int .i64 (n : Int)) ∧ Z.cell? ⟨b3, o3 + d, none⟩ = some (.int .i64 (F : Int)))
    (first | exact HKP.out _ HF1.out.2.2 | exact HKP.out _ (by (repeat (first | exact Below.refl _ _ | (with_reducible refine Below.drew ?_) | (with_reducible refine Below.alloc ?_ (by (try simp); (try omega)) _) | (with_reducible refine Below.setCell ?_ (by (try simp); (try omega)) _) | (with_reducible refine Below.trans ?_ (Below.mono (by assumption) (by (try simp); (try omega))))))))
    (first | ((with_reducible refine (HCd.out _ (by (repeat (first | exact Below.refl _ _ | (with_reducible refine Below.drew ?_) | (with_reducible refine Below.alloc ?_ (by (try simp); (try omega)) _) | (with_reducible refine Below.setCell ?_ (by (try simp); (try omega)) _) | (with_reducible refine Below.trans ?_ (Below.mono (by assumption) (by (try simp); (try omega)))))))).mono ?_); rintro e w1 ⟨V, c, rfl, hf1⟩; dsimp only
              have HF1 := Lib.hid (hf1.from (w0 := X) (by (repeat (first | exact Below.refl _ _ | (with_reducible refine Below.drew ?_) | (with_reducible refine Below.alloc ?_ (by (try simp); (try omega)) _) | (with_reducible refine Below.setCell ?_ (by (try simp); (try omega)) _) | (with_reducible refine Below.trans ?_ (Below.mono (by assumption) (by (try simp); (try omega))))))))
              have hs1 : X.heap.size ≤ w1.heap.size := HF1.out.2.2.size
              clear hf1))
  go_wp2_with fail
  go_loopw [8, 9, 10] (fun b o i wr => ∃ j : Nat, ∃ bb : Int × List Int, ∃ V5 c5, b = .int .i64 bb.1 ∧ o = .slice V5 bb.2.length c5 ∧ i = .int .i64 j ∧ j ≤ ids.length ∧ Hid (leastN code (ids.take j) = bb ∧ 0 ≤ bb.1 ∧ bb.2.length ≤ 100000 ∧ Fresh X wr 3 1 bb.2.length (.slice V5 bb.2.length c5) (ivals bb.2))) (fun _ _ i _ => ids.length - (intOf i).toNat)
  case atStart => exact ⟨1, ((d : Int), code d), V, c, rfl, rfl, by simp, hm0, Lib.hid ⟨HL1.out, by show (0 : Int) ≤ d; omega, HLd.out, HF1.out⟩⟩
  case round =>
    obtain ⟨j, ⟨bb, cc⟩, V5, c5, rfl, rfl, rfl, hj, HR⟩ := hrel
    dsimp only at HR
    clear HF1 g0 hb3
    have HBr := HR.out.2.2.2.2.2
    obtain ⟨q0, q1, q2, q3, q4⟩ := HC4.out wr HBr
    by_cases hlt : j < ids.length
    · obtain ⟨b', o', e, hb', g0⟩ := HIx.out j hlt
      simp only [Option.some.injEq, Addr.mk.injEq, and_true] at e
      obtain ⟨rfl, rfl⟩ := e
      have g0 := ((bcell HBr).1 _ _ hb').trans g0
      have hbl := Nat.lt_of_lt_of_le hb' HBr.size
      obtain ⟨r0, r1, r2⟩ := hr.out j hlt
      have HL2 := Lib.hid (HLs.out j hlt)
      generalize ids.getD j 0 = x1 at g0 r0 r1 r2 HL2
      obtain ⟨d2, rfl⟩ := Int.eq_ofNat_of_zero_le r0
      have hd2 : d2 < n := by omega
      have hd3 : (d2 : Int) < ((n + 1 : Nat) : Int) := by omega
      have hj1 : (j : Int) < (ids.length : Int) := by omega
      obtain ⟨F2, hF2, hb3, f0⟩ := HFi.out wr d2 hd2 (HBw.out _ HBr)
      have HCd2 := Lib.hid (fun Z (hb : Below X.heap.size X Z) => HCode.out Z d2 F2 hF2 r2 (HBw.out Z hb))
      have HLd2 := Lib.hid (HLen.out _ r2)
      have HBR := Lib.hid HBr
      clear hF2 r2 r0 r1 HBr hb' HCd HLd
      go_wp2_with fail
      go_upto_region 6 with fail
      have HKP2 : Hid (∀ Z, Below X.heap.size X Z → Below wr.heap.size wr Z → Z.cell? ⟨w.heap.size, 0, none⟩ = some (.slice V1 M c1) ∧ Z.cell? ⟨w.heap.size, 1, none⟩ = some (.slice V2 M c2) ∧ Z.cell? ⟨w.heap.size, 2, none⟩ = some (.slice (some ⟨b3, o3, none⟩) (n + 1) c3) ∧ Z.cell? ⟨w.heap.size, 3, none⟩ = some (.int .i64 (n : Int)) ∧ Z.cell? ⟨b3, o3 + d2, none⟩ = some (.int .i64 (F2 : Int)) ∧ Z.cell? ⟨bi, oi + j, none⟩ = some (.int .i64 (d2 : Int))) := fun Z hb hb2 => by
        obtain ⟨x0, x1, x2, x3, _⟩ := HC4.out Z hb
        exact ⟨x0, x1, x2, x3, ((bcell hb2).1 b3 (o3 + d2) hb3).trans f0, ((bcell hb2).1 bi (oi + j) hbl).trans g0⟩
      have hk0 := HKP2.out wr HBR.out (Below.refl _ _)
      have r3 : (0 : Int) ≤ (d2 : Int) := by omega
      have r4 : (d2 : Int) < (n : Int) + 1 := by omega
      have r5 : (0 : Int) ≤ (j : Int) := by omega
      clear q0 q1 q2 q3 f0 g0
      go_region_held3 (fun Z => Z.cell? ⟨w.heap.size, 0, none⟩ = some (.slice V1 M c1) ∧ Z.cell? ⟨w.heap.size, 1, none⟩ = some (.slice V2 M c2) ∧ Z.cell? ⟨w.heap.size, 2, none⟩ = some (.slice (some ⟨b3, o3, none⟩) (n + 1) c3) ∧ Z.cell? ⟨w.heap.size, 3, none⟩ = some (.int .i64 (n : Int)) ∧ Z.cell? ⟨b3, o3 + d2, none⟩ = some (.int .i64 (F2 : Int)) ∧ Z.cell? ⟨bi, oi + j, none⟩ = some (.int .i64 (d2 : Int)))
        (first | exact HKP2.out _ HF2.out.2.2 HB2.out | exact HKP2.out _ (HBR.out.trans (Below.mono (by (repeat (first | exact Below.refl _ _ | (with_reducible refine Below.drew ?_) | (with_reducible refine Below.alloc ?_ (by (try simp); (try omega)) _) | (with_reducible refine Below.setCell ?_ (by (try simp); (try omega)) _) | (with_reducible refine Below.trans ?_ (Below.mono (by assumption) (by (try simp); (try omega))))))) HBR.out.size)) (by (repeat (first | exact Below.refl _ _ | (with_reducible refine Below.drew ?_) | (with_reducible refine Below.alloc ?_ (by (try simp); (try omega)) _) | (with_reducible refine Below.setCell ?_ (by (try simp); (try omega)) _) | (with_reducible refine Below.trans ?_ (Below.mono (by assumption) (by (try simp); (try omega))))))))
        (first | ((with_reducible refine (HCd2.out _ (HBR.out.trans (Below.mono (by (repeat (first | exact Below.refl _ _ | (with_reducible refine Below.drew ?_) | (with_reducible refine Below.alloc ?_ (by (try simp); (try omega)) _) | (with_reducible refine Below.setCell ?_ (by (try simp); (try omega)) _) | (with_reducible refine Below.trans ?_ (Below.mono (by assumption) (by (try simp); (try omega))))))) HBR.out.size))).mono ?_); rintro e w2 ⟨V2', c2', rfl, hf2⟩; dsimp only
                  have HF2 := Lib.hid (hf2.from (w0 := X) (HBR.out.trans (Below.mono (by (repeat (first | exact Below.refl _ _ | (with_reducible refine Below.drew ?_) | (with_reducible refine Below.alloc ?_ (by (try simp); (try omega)) _) | (with_reducible refine Below.setCell ?_ (by (try simp); (try omega)) _) | (with_reducible refine Below.trans ?_ (Below.mono (by assumption) (by (try simp); (try omega))))))) HBR.out.size)))
                  have HB2 : Hid (Below wr.heap.size wr w2) := Below.trans (by (repeat (first | exact Below.refl _ _ | (with_reducible refine Below.drew ?_) | (with_reducible refine Below.alloc ?_ (by (try simp); (try omega)) _) | (with_reducible refine Below.setCell ?_ (by (try simp); (try omega)) _) | (with_reducible refine Below.trans ?_ (Below.mono (by assumption) (by (try simp); (try omega))))))) hf2.2.2
                  have hs2 : wr.heap.size ≤ w2.heap.size := HB2.out.size
                  clear hf2))
      have HF3 := Lib.hid (HR.out.2.2.2.later HB2.out)
      have g0 := (HKP2.out _ HF2.out.2.2 HB2.out).2.2.2.2.2
      have hbl := Nat.lt_of_lt_of_le hbl hs2
      have hstep : ∀ b2 : Int × List Int, leastS code (bb, cc) (d2 : Int) = b2 → leastN code (ids.take (j + 1)) = b2 := fun b2 h => by rw [HL2.out, HR.out.1]; exact h
      by_cases hcmp : cmpN (code (d2 : Int)) cc < 0
      · have HST := Lib.hid (hstep ((d2 : Int), code d2) (if_pos (.inr hcmp)))
        clear hstep
        go_wp2_with (go_at_call 108
                     refine (rcompare V2' V5 _ _ c2' c5 (code d2) cc _ rfl rfl HLd2.out HR.out.2.2.1 (Lib.hid HF2.out.1.ints) (Lib.hid HF3.out.1.ints)).mono ?_
                     rintro e w3 ⟨rfl, hb3⟩
                     have HF4 := Lib.hid (HF2.out.later hb3)
                     have HF5 := Lib.hid (HF3.out.later hb3)
                     have g0 := (bcell hb3).1 bi (oi + j) hbl |>.trans g0
                     have hbl := Nat.lt_of_lt_of_le hbl hb3.size
                     clear hb3)
        refine ⟨?rel, ?measure⟩
        case rel => exact ⟨j + 1, ((d2 : Int), code d2), V2', c2', rfl, rfl, by go_num, by omega, Lib.hid ⟨HST.out, by show (0 : Int) ≤ d2; omega, HLd2.out, HF4.out⟩⟩
        case measure => simp [intOf]; omega
      · have HST := Lib.hid (hstep (bb, cc) (if_neg (fun h => h.elim (fun h => by have h2 := HR.out.2.1; dsimp only at h; omega) hcmp)))
        clear hstep
        go_wp2_with (go_at_call 108
                     refine (rcompare V2' V5 _ _ c2' c5 (code d2) cc _ rfl rfl HLd2.out HR.out.2.2.1 (Lib.hid HF2.out.1.ints) (Lib.hid HF3.out.1.ints)).mono ?_
                     rintro e w3 ⟨rfl, hb3⟩
                     have HF4 := Lib.hid (HF2.out.later hb3)
                     have HF5 := Lib.hid (HF3.out.later hb3)
                     have g0 := (bcell hb3).1 bi (oi + j) hbl |>.trans g0
                     have hbl := Nat.lt_of_lt_of_le hbl hb3.size
                     clear hb3)
        refine ⟨?rel, ?measure⟩
        case rel => exact ⟨j + 1, (bb, cc), V5, c5, rfl, rfl, by go_num, by omega, Lib.hid ⟨HST.out, HR.out.2.1, HR.out.2.2.1, HF5.out⟩⟩
        case measure => simp [intOf]; omega
    · obtain rfl : j = ids.length := by omega
      have HE : Hid (leastN code ids = (bb, cc)) := by have h := HR.out.1; rwa [List.take_length] at h
      have HFF := Lib.hid (HR.out.2.2.2.from HX.out.1)
      go_wp2_with fail
      go_ret2
      rw [HE.out]
      exact ⟨V5, c5, rfl, HFF.out⟩
end Go.Proofs.YtkonfogebepccaaDoor
