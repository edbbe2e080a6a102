/-
  The walk of WiringNone.
-/
import Derived.Test.YthbobooiedcofaaWirNone
import Derived.Deep.DeepCutAuto
namespace Go.Proofs.Ythbobooiedcofaa
open Go.RowKit
attribute [local go_sem] cell_set
set_option maxRecDepth 100000
set_option linter.unusedVariables false

set_option maxHeartbeats 8000000 in
theorem none08 (c s d t : Int) (w : World) : Calls Try.prog 4 #[.agg #[.int .i64 c, .int .i64 s], .agg #[.int .i64 d, .int .i64 t]] w fun e w' => e = .returned (.bool true) ∧ Below w.heap.size w w' := by
  go_enter Try.func4, Try.ntmps4
  go_wp2_with fail
  refine (new_nil 1 _).mono ?_
  rintro e w1 ⟨rfl, hb1⟩
  obtain ⟨hc1, hf1⟩ := bcell hb1; have hz1 := hb1.size; (try simp at hz1); have hz1a : w.heap.size < w1.heap.size := (by omega); have hz1b : w.heap.size + 1 < w1.heap.size := (by omega)
  simp only []
  go_upto_region 4 with fail
  refine absW (fun X => Below w.heap.size w X ∧ X.cell? ⟨w.heap.size, 0, none⟩ = some (.int .i64 c) ∧ X.cell? ⟨w.heap.size, 1, none⟩ = some (.int .i64 s) ∧ X.cell? ⟨w.heap.size + 1, 0, none⟩ = some (.int .i64 d) ∧ X.cell? ⟨w.heap.size + 1, 1, none⟩ = some (.int .i64 t) ∧ X.cell? ⟨w1.heap.size, 0, none⟩ = some (.pointer none) ∧ w.heap.size + 1 < X.heap.size ∧ w1.heap.size < X.heap.size) ⟨by (repeat (first | exact Below.refl _ _ | (with_reducible refine Below.drew ?_) | (with_reducible refine Below.alloc ?_ (by (try simp); (try omega)) _) | (with_reducible refine Below.setCell ?_ (by (try simp); (try omega)) _) | (with_reducible refine Below.trans ?_ (Below.mono (by assumption) (by (try simp); (try omega)))))), by go_simp, by go_simp, by go_simp, by go_simp, (by go_simp; rfl), by simp <;> omega, by simp⟩ ?_
  rintro X ⟨hbX, x0, x1, y0, y1, hv, hz, hzv⟩
  have HV := Lib.hid (noW_row hv hzv)
  have HN := Lib.hid (noW_nil X)
  have HX := Lib.hid hbX
  have hz0 : w.heap.size < X.heap.size := by omega
  clear hc1 hf1 hb1 hz1 hz1a hz1b hbX hv
  generalize hb2 : w1.heap.size = bv at *
  generalize hb0 : w.heap.size + 1 = b1 at *
  go_wp2_with fail
  refine (no_to _ X c s HN.out).mono ?_
  rintro e w2 ⟨rfl, hb2⟩
  obtain ⟨hc2, hf2⟩ := bcell hb2; have hz2 := hb2.size; (try simp at hz2); have hz2a : w.heap.size < w2.heap.size := (by omega); have hz2b : b1 < w2.heap.size := (by omega); have hz2c : bv < w2.heap.size := (by omega)
  simp only []
  go_wp2_with fail
  refine (no_link _ _ c s d t (HV.out.below (by (repeat (first | exact Below.refl _ _ | (with_reducible refine Below.drew ?_) | (with_reducible refine Below.alloc ?_ (by (try simp); (try omega)) _) | (with_reducible refine Below.setCell ?_ (by (try simp); (try omega)) _) | (with_reducible refine Below.trans ?_ (Below.mono (by assumption) (by (try simp); (try omega))))))))).mono ?_
  rintro e w3 ⟨rfl, hb3⟩
  obtain ⟨hc3, hf3⟩ := bcell hb3; have hz3 := hb3.size; (try simp at hz3); have hz3a : w.heap.size < w3.heap.size := (by omega); have hz3b : b1 < w3.heap.size := (by omega); have hz3c : bv < w3.heap.size := (by omega); have hz3d : w2.heap.size < w3.heap.size := (by omega)
  simp only []
  go_wp2_with fail
  refine (no_cut _ _ c s (HN.out.below (by (repeat (first | exact Below.refl _ _ | (with_reducible refine Below.drew ?_) | (with_reducible refine Below.alloc ?_ (by (try simp); (try omega)) _) | (with_reducible refine Below.setCell ?_ (by (try simp); (try omega)) _) | (with_reducible refine Below.trans ?_ (Below.mono (by assumption) (by (try simp); (try omega))))))))).mono ?_
  rintro e w4 ⟨rfl, hb4⟩
  obtain ⟨hc4, hf4⟩ := bcell hb4; have hz4 := hb4.size; (try simp at hz4); have hz4a : w.heap.size < w4.heap.size := (by omega); have hz4b : b1 < w4.heap.size := (by omega); have hz4c : bv < w4.heap.size := (by omega); have hz4d : w2.heap.size < w4.heap.size := (by omega)
  simp only []
  go_wp2_with fail
  refine (no_pass _ _ c s d t (HV.out.below (by (repeat (first | exact Below.refl _ _ | (with_reducible refine Below.drew ?_) | (with_reducible refine Below.alloc ?_ (by (try simp); (try omega)) _) | (with_reducible refine Below.setCell ?_ (by (try simp); (try omega)) _) | (with_reducible refine Below.trans ?_ (Below.mono (by assumption) (by (try simp); (try omega))))))))).mono ?_
  rintro e w5 ⟨rfl, hb5⟩
  obtain ⟨hc5, hf5⟩ := bcell hb5; have hz5 := hb5.size; (try simp at hz5); have hz5a : w.heap.size < w5.heap.size := (by omega); have hz5b : b1 < w5.heap.size := (by omega); have hz5c : bv < w5.heap.size := (by omega); have hz5d : w2.heap.size < w5.heap.size := (by omega); have hz5e : w4.heap.size < w5.heap.size := (by omega)
  simp only []
  go_wp2_with fail
  refine (no_drop _ _ c (HN.out.below (by (repeat (first | exact Below.refl _ _ | (with_reducible refine Below.drew ?_) | (with_reducible refine Below.alloc ?_ (by (try simp); (try omega)) _) | (with_reducible refine Below.setCell ?_ (by (try simp); (try omega)) _) | (with_reducible refine Below.trans ?_ (Below.mono (by assumption) (by (try simp); (try omega))))))))).mono ?_
  rintro e w6 ⟨rfl, hb6⟩
  obtain ⟨hc6, hf6⟩ := bcell hb6; have hz6 := hb6.size; (try simp at hz6); have hz6a : w.heap.size < w6.heap.size := (by omega); have hz6b : b1 < w6.heap.size := (by omega); have hz6c : bv < w6.heap.size := (by omega); have hz6d : w2.heap.size < w6.heap.size := (by omega); have hz6e : w4.heap.size < w6.heap.size := (by omega); have hz6f : w5.heap.size < w6.heap.size := (by omega)
  simp only []
  go_wp2_with fail
  refine (no_word _ _ c s (HV.out.below (by (repeat (first | exact Below.refl _ _ | (with_reducible refine Below.drew ?_) | (with_reducible refine Below.alloc ?_ (by (try simp); (try omega)) _) | (with_reducible refine Below.setCell ?_ (by (try simp); (try omega)) _) | (with_reducible refine Below.trans ?_ (Below.mono (by assumption) (by (try simp); (try omega))))))))).mono ?_
  rintro e w7 ⟨rfl, hb7⟩
  obtain ⟨hc7, hf7⟩ := bcell hb7; have hz7 := hb7.size; (try simp at hz7); have hz7a : w.heap.size < w7.heap.size := (by omega); have hz7b : b1 < w7.heap.size := (by omega); have hz7c : bv < w7.heap.size := (by omega); have hz7d : w2.heap.size < w7.heap.size := (by omega); have hz7e : w4.heap.size < w7.heap.size := (by omega); have hz7f : w5.heap.size < w7.heap.size := (by omega)
  simp only []
  go_upto_region 10 with fail
  have hX7 : Below X.heap.size X w7 := by (repeat (first | exact Below.refl _ _ | (with_reducible refine Below.drew ?_) | (with_reducible refine Below.alloc ?_ (by (try simp); (try omega)) _) | (with_reducible refine Below.setCell ?_ (by (try simp); (try omega)) _) | (with_reducible refine Below.trans ?_ (Below.mono (by assumption) (by (try simp); (try omega))))))
  have hb07 : Below w.heap.size w w7 := HX.out.trans (hX7.mono HX.out.size)
  have HB07 := Lib.hid hb07
  have HV7 := Lib.hid (HV.out.below hX7)
  have HN7 := Lib.hid (noW_nil w7)
  clear hb07 hX7
  simp only [List.append]
  go_wp2_with fail
  refine (no_arena _ _ HN7.out).mono ?_
  rintro e w8 ⟨rfl, hb8⟩
  have HB8 := Lib.hid hb8
  clear hb8
  simp only []
  go_wp2_with fail
  refine (no_arena _ _ (HV7.out.below HB8.out)).mono ?_
  rintro e w9 ⟨rfl, hb9⟩
  have HB9 := Lib.hid (HB8.out.trans (hb9.mono HB8.out.size))
  clear hb9
  simp only []
  go_wp2_with fail
  refine (no_free _ _ (HN7.out.below HB9.out)).mono ?_
  rintro e w10 ⟨rfl, hb10⟩
  have HB10 := Lib.hid (HB9.out.trans (hb10.mono HB9.out.size))
  clear hb10
  simp only []
  go_wp2_with fail
  refine (no_open _ bv (HV7.out.below HB10.out)).mono ?_
  rintro e w11 ⟨rfl, hb11⟩
  have HB11 := Lib.hid (HB10.out.trans (hb11.mono HB10.out.size))
  clear hb11
  simp only []
  go_wp2_with fail
  refine (works08 _).mono ?_
  rintro e w12 ⟨rfl, hb12⟩
  have HB12 := Lib.hid (HB11.out.trans (hb12.mono HB11.out.size))
  clear hb12
  simp only []
  go_wp2_with fail
  go_ret
  exact ⟨rfl, HB07.out.trans (HB12.out.mono HB07.out.size)⟩
end Go.Proofs.Ythbobooiedcofaa
