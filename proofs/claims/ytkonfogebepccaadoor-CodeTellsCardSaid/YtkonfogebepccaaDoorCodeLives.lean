/-
  skeinlaw12: sig, ring, lives.
-/
import Derived.Test.YtkonfogebepccaaDoorCodeLeast
import Derived.Test.YtkonfogebepccaaDoorEqN
import Derived.Deep.Cut
namespace Go.Proofs.YtkonfogebepccaaDoor
open Go.RowKit
attribute [local go_sem] cell_set
set_option maxRecDepth 100000
set_option linter.unusedVariables false

def L12 : List (ByteArray × Int) := [(⟨#[90]⟩, 0), (⟨#[83]⟩, 1), (⟨#[65, 100, 100]⟩, 2)]
def C12 : List Int := [2, 0]
def W12 : List (Pt × Pt) := [((0, 0), (0, 1)), ((0, 2), (1, 0))]
abbrev codeA12 : List Int := [0, 2, 1, 0, 8, 0, 2]
abbrev codeB12 : List Int := [0, 0, 10, 2, 9, 8, 0]
theorem net12 : (netChk (pnL L12) L12.length (chk L12) C12 0 W12).1 = 0 := by decide +kernel
theorem is12 : isPt (pnL L12) C12 0 (0, 0) = true := by decide +kernel
theorem codeA_12 : codeN (pnL L12) C12 (lkM W12) (0, 0) = codeA12 := by decide +kernel
theorem least_12 : leastN (fun c => codeN (pnL L12) C12 (lkM W12) (c, 0)) [0, 1] = (1, codeB12) := by decide +kernel
theorem cmp_12 : cmpN codeB12 codeA12 = -1 := by decide +kernel
theorem ag12 {w : World} {b : Nat} {c : Nat × Nat} (h : w.heap[b]? = some (.cells #[.string ⟨#[90]⟩, .int .i64 0, .string ⟨#[83]⟩, .int .i64 1, .string ⟨#[65, 100, 100]⟩, .int .i64 2] 106 c)) : AgRd w (some ⟨b, 0, none⟩) L12 := fun i hi => by
  have hi2 : i = 0 ∨ i = 1 ∨ i = 2 := by simp [L12] at hi; omega
  refine ⟨b, 0, rfl, heap_lt h, ?_, ?_⟩ <;> rcases hi2 with rfl | rfl | rfl <;> simp [World.cell?, h, L12, agN, agA]
theorem ints12 {w : World} {b : Nat} {x y : Int} {c : Nat × Nat} (h : w.heap[b]? = some (.cells #[.int .i64 x, .int .i64 y] 3 c)) : IntsRd w (some ⟨b, 0, none⟩) [x, y] := fun i hi => by
  have hi2 : i = 0 ∨ i = 1 := by simp at hi; omega
  refine ⟨b, 0, rfl, heap_lt h, ?_⟩
  rcases hi2 with rfl | rfl <;> simp [World.cell?, h]
theorem ints12_7 {w : World} {b : Nat} {x0 x1 x2 x3 x4 x5 x6 : Int} {c : Nat × Nat} (h : w.heap[b]? = some (.cells #[.int .i64 x0, .int .i64 x1, .int .i64 x2, .int .i64 x3, .int .i64 x4, .int .i64 x5, .int .i64 x6] 3 c)) : IntsRd w (some ⟨b, 0, none⟩) [x0, x1, x2, x3, x4, x5, x6] := fun i hi => by
  have hi2 : i = 0 ∨ i = 1 ∨ i = 2 ∨ i = 3 ∨ i = 4 ∨ i = 5 ∨ i = 6 := by simp at hi; omega
  refine ⟨b, 0, rfl, heap_lt h, ?_⟩
  rcases hi2 with rfl | rfl | rfl | rfl | rfl | rfl | rfl <;> simp [World.cell?, h]
theorem wr12 {w : World} {b : Nat} {c : Nat × Nat} (h : w.heap[b]? = some (.cells #[.int .i64 0, .int .i64 0, .int .i64 0, .int .i64 1, .int .i64 0, .int .i64 2, .int .i64 1, .int .i64 0] 108 c)) : WrRd w (some ⟨b, 0, none⟩) W12 := fun i hi => by
  have hi2 : i = 0 ∨ i = 1 := by simp [W12] at hi; omega
  refine ⟨b, 0, rfl, heap_lt h, ?_, ?_, ?_, ?_⟩ <;> rcases hi2 with rfl | rfl <;> simp [World.cell?, h, W12]
section
variable (w : World)
theorem sig12 : Calls Tryd.prog 84 #[] w fun e w' => ∃ V, e = .returned (.slice V 3 3) ∧ AgRd w' V L12 ∧ Below w.heap.size w w' := by
  go_enter Tryd.func84, Tryd.ntmps84
  go_wp2
  go_ret
  exact ⟨_, rfl, ag12 (heap_alloc_new w _), by (repeat (first | exact Below.refl _ _ | (with_reducible refine Below.drew ?_) | (with_reducible refine Below.alloc ?_ (by (try simp); (try omega)) _) | (with_reducible refine Below.setCell ?_ (by (try simp); (try omega)) _) | (with_reducible refine Below.trans ?_ (Below.mono (by assumption) (by (try simp); (try omega))))))⟩
theorem ring12 : Calls Tryd.prog 85 #[] w fun e w' => ∃ V1 V2, e = .returned (.agg #[.slice V1 2 2, .int .i64 0, .slice V2 2 2]) ∧ IntsRd w' V1 C12 ∧ WrRd w' V2 W12 ∧ Below w.heap.size w w' := by
  go_enter Tryd.func85, Tryd.ntmps85
  go_wp2_with fail
  obtain ⟨h1, h2, h3⟩ := heapW3 w (.cells #[.slice (some ⟨w.heap.size + 1, 0, none⟩) 2 2, .int .i64 0, .slice (some ⟨w.heap.size + 1 + 1, 0, none⟩) 2 2] 64) (.cells #[.int .i64 2, .int .i64 0] 3) (.cells #[.int .i64 0, .int .i64 0, .int .i64 0, .int .i64 1, .int .i64 0, .int .i64 2, .int .i64 1, .int .i64 0] 108)
  refine bodyPost_ret (v := .agg #[.slice (some ⟨w.heap.size + 1, 0, none⟩) 2 2, .int .i64 0, .slice (some ⟨w.heap.size + 1 + 1, 0, none⟩) 2 2]) (by simp only [results, Tryd.results85]; go_simp) rfl ?_
  exact ⟨_, _, rfl, ints12 h2, wr12 h3, by (repeat (first | exact Below.refl _ _ | (with_reducible refine Below.drew ?_) | (with_reducible refine Below.alloc ?_ (by (try simp); (try omega)) _) | (with_reducible refine Below.setCell ?_ (by (try simp); (try omega)) _) | (with_reducible refine Below.trans ?_ (Below.mono (by assumption) (by (try simp); (try omega))))))⟩
theorem alA (W : World) (o : Obj) : Below W.heap.size W (W.alloc o) := (Below.refl _ _).alloc (Nat.le_refl _) _
theorem al_then {W X : World} {o : Obj} (h : Below (W.alloc o).heap.size (W.alloc o) X) : Below W.heap.size W X := (alA W o).trans (h.mono (by simp))
theorem eq_lit {W : World} {A : Option Addr} {c : Nat} {l : List Int} {x0 x1 x2 x3 x4 x5 x6 : Int} (h : IntsRd W A l) (e : l = [x0, x1, x2, x3, x4, x5, x6]) :
    Calls Tryd.prog 47 #[.slice A 7 c, .slice (some ⟨W.heap.size, 0, none⟩) 7 7] (W.alloc (.cells #[.int .i64 x0, .int .i64 x1, .int .i64 x2, .int .i64 x3, .int .i64 x4, .int .i64 x5, .int .i64 x6] 3)) fun e w' => e = .returned (.bool true) ∧ Below W.heap.size W w' := by
  subst e
  refine (eq_ints A _ 7 7 c 7 _ _ _ rfl rfl (by simp) (by simp) (Lib.hid (h.below (alA _ _))) (Lib.hid (ints12_7 (heap_alloc_new _ _)))).mono ?_
  rintro e w1 ⟨rfl, hb⟩
  exact ⟨by simp, al_then hb⟩
structure In12 (X : World) (V V1 V2 : Option Addr) : Prop where
  ag : AgRd X V L12
  cs : IntsRd X V1 C12
  ws : WrRd X V2 W12
variable {X : World} {V V1 V2 : Option Addr}
theorem from12 (h : Hid (In12 X V V1 V2)) : Calls Tryd.prog 43 #[.slice V 3 3, .agg #[.slice V1 2 2, .int .i64 0, .slice V2 2 2], .agg #[.int .i64 0, .int .i64 0]] X fun e w' => ∃ U c, e = .returned (.tuple #[.slice U 7 c, .int .i64 0]) ∧ IntsRd w' U codeA12 ∧ Below X.heap.size X w' := by
  refine (code_from V 3 3 L12 V1 V2 2 2 C12 0 W12 X (0, 0) rfl (by decide) (Lib.hid h.out.ag) (by decide) (Lib.hid h.out.cs) (Lib.hid h.out.ws) (by decide) (by decide) net12 is12).mono ?_
  rintro e w' ⟨U, c, rfl, hf⟩
  rw [codeA_12] at hf ⊢
  exact ⟨U, c, rfl, hf.1.ints, hf.2.2⟩
theorem least12 (h : Hid (In12 X V V1 V2)) {VI : Option Addr} (hi : IntsRd X VI [0, 1]) : Calls Tryd.prog 45 #[.slice V 3 3, .agg #[.slice V1 2 2, .int .i64 0, .slice V2 2 2], .slice VI 2 2] X fun e w' => ∃ U c, e = .returned (.tuple #[.int .i64 1, .slice U 7 c, .int .i64 0]) ∧ IntsRd w' U codeB12 ∧ Below X.heap.size X w' := by
  refine (code_least V 3 3 L12 V1 V2 VI 2 2 2 2 C12 0 W12 [0, 1] X rfl (by decide) (Lib.hid h.out.ag) (by decide) (Lib.hid h.out.cs) (Lib.hid h.out.ws) (by decide) (by decide) net12 (Lib.hid hi) rfl (by decide) (by decide) (Lib.hid (by decide))).mono ?_
  rintro e w' ⟨U, c, rfl, hf⟩
  rw [least_12] at hf ⊢
  exact ⟨U, c, rfl, hf.1.ints, hf.2.2⟩
theorem none12 (h : Hid (In12 X V V1 V2)) : Calls Tryd.prog 45 #[.slice V 3 3, .agg #[.slice V1 2 2, .int .i64 0, .slice V2 2 2], .slice none 0 0] X fun e w' => e = .returned (.tuple #[.int .i64 0, .slice none 0 0, .int .i64 1]) ∧ Below X.heap.size X w' :=
  code_least_nil V 3 3 L12 V1 V2 none 2 2 0 C12 0 W12 X rfl (by decide) (Lib.hid h.out.ag) (by decide) (Lib.hid h.out.cs) (Lib.hid h.out.ws) (by decide) (by decide) net12
end
set_option maxHeartbeats 4000000 in
theorem lives12 (w : World) : Calls Tryd.prog 40 #[] w fun e w' => e = .returned (.bool true) ∧ Below w.heap.size w w' := by
  go_enter Tryd.func40, Tryd.ntmps40
  have HB := Lib.hid (Below.refl w.heap.size w)
  go_upto_region 2 with (first
    | (go_at_call 84
       refine (sig12 _).mono ?_
       rintro e w1 ⟨V, rfl, ha, hb⟩
       have HG := Lib.hid ha
       have HB := Lib.hid (HB.out.trans (hb.mono HB.out.size))
       clear ha hb)
    | (go_at_call 85
       refine (ring12 _).mono ?_
       rintro e w2 ⟨V1, V2, rfl, h1, h2, hb⟩
       have HI := Lib.hid (In12.mk (HG.out.below hb) h1 h2)
       have HB := Lib.hid (HB.out.trans (hb.mono HB.out.size))
       clear h1 h2 hb HG)
    | (go_at_call 43
       refine (from12 HI).mono ?_
       rintro e w3 ⟨U, c, rfl, hu, hb⟩
       have HU := Lib.hid hu
       have HB := Lib.hid (HB.out.trans (hb.mono HB.out.size))
       clear hu hb HI))
  go_upto_region 3 with (first
    | (go_at_call 84
       refine (sig12 _).mono ?_
       rintro e w4 ⟨V, rfl, ha, hb⟩
       have HG := Lib.hid ha
       have HU := Lib.hid (HU.out.below hb)
       have HB := Lib.hid (HB.out.trans (hb.mono HB.out.size))
       clear ha hb)
    | (go_at_call 85
       refine (ring12 _).mono ?_
       rintro e w5 ⟨V1, V2, rfl, h1, h2, hb⟩
       have HU := Lib.hid (HU.out.below hb)
       have HB := Lib.hid (HB.out.trans (hb.mono HB.out.size))
       have HA9 : Below w5.heap.size w5 (w5.alloc (.cells #[.int .i64 0, .int .i64 1] 3)) := (Below.refl _ _).alloc (Nat.le_refl _) _
       have HI := Lib.hid (In12.mk ((HG.out.below hb).below HA9) (h1.below HA9) (h2.below HA9))
       have HK := Lib.hid (ints12 (heap_alloc_new w5 (.cells #[.int .i64 0, .int .i64 1] 3)))
       have HU := Lib.hid (HU.out.below HA9)
       have HB := Lib.hid (HB.out.trans (HA9.mono HB.out.size))
       clear h1 h2 hb HG HA9)
    | (go_at_call 45
       refine (least12 HI HK.out).mono ?_
       rintro e w6 ⟨U2, c2, rfl, hu, hb⟩
       have HU := Lib.hid (HU.out.below hb)
       have HU2 := Lib.hid hu
       have HB := Lib.hid (HB.out.trans (hb.mono HB.out.size))
       clear hu hb HI HK))
  go_upto_region 4 with (first
    | (go_at_call 84
       refine (sig12 _).mono ?_
       rintro e w7 ⟨V, rfl, ha, hb⟩
       have HG := Lib.hid ha
       have HU := Lib.hid (HU.out.below hb)
       have HU2 := Lib.hid (HU2.out.below hb)
       have HB := Lib.hid (HB.out.trans (hb.mono HB.out.size))
       clear ha hb)
    | (go_at_call 85
       refine (ring12 _).mono ?_
       rintro e w8 ⟨V1, V2, rfl, h1, h2, hb⟩
       have HI := Lib.hid (In12.mk (HG.out.below hb) h1 h2)
       have HU := Lib.hid (HU.out.below hb)
       have HU2 := Lib.hid (HU2.out.below hb)
       have HB := Lib.hid (HB.out.trans (hb.mono HB.out.size))
       clear h1 h2 hb HG)
    | (go_at_call 45
       refine (none12 HI).mono ?_
       rintro e w9 ⟨rfl, hb⟩
       have HU := Lib.hid (HU.out.below hb)
       have HU2 := Lib.hid (HU2.out.below hb)
       have HB := Lib.hid (HB.out.trans (hb.mono HB.out.size))
       clear hb HI))
  go_wp2_with (first
    | (go_at_call 47
       refine (eq_lit (by first | (with_reducible exact HU.out) | (with_reducible exact HU2.out)) rfl).mono ?_
       rintro e w10 ⟨rfl, hb⟩
       have HU := Lib.hid (HU.out.below hb)
       have HU2 := Lib.hid (HU2.out.below hb)
       have HB := Lib.hid (HB.out.trans (hb.mono HB.out.size))
       clear hb)
    | (go_at_call 86
       refine (code_compare U2 U 7 7 c2 c codeB12 codeA12 _ rfl rfl (by decide) (by decide) HU2 HU).mono ?_
       rintro e w12 ⟨rfl, hb⟩
       rw [cmp_12]
       have HB := Lib.hid (HB.out.trans (hb.mono HB.out.size))
       clear hb))
  go_ret
  exact ⟨rfl, HB.out⟩
end Go.Proofs.YtkonfogebepccaaDoor
