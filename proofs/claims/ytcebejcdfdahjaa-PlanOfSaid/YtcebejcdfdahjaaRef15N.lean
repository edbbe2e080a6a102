/-
  Contract of skeinref15.Neat.
-/
import Derived.Test.YtcebejcdfdahjaaRuleOps
namespace Go.Proofs.Ytcebejcdfdahjaa
open Go.RowKit
attribute [local go_sem] cell_set
set_option maxRecDepth 100000
set_option linter.unusedVariables false

section
variable (A : Option Addr) (n cap : Nat) (L : List (ByteArray × Int)) (a b : Int) (VA VB : Option Addr) (ca cb : Nat) (cells : List Int) (free : Nat) (W : List (Pt × Pt)) (w : World)
set_option maxHeartbeats 4000000 in
theorem rneat15 (hn : n = L.length) (HL : Hid (AgRd w A L)) (hs : SigOk L) (HC : Hid (IntsRd w VA cells)) (HW : Hid (WrRd w VB W)) (hc : cells.length ≤ 5000) (hf : free ≤ 100) (hw : W.length ≤ 40000) (hok : Hid (NetOk (pnL L) cells free W)) :
    Calls Try.prog 31 #[.slice A n cap, ruleV a b VA ca cells free VB cb W] w fun e w' => ∃ V1 c1 V2 c2, e = .returned (ruleV a b V1 c1 cells free V2 c2 (tidyW (allPs (pnL L) cells free) W)) ∧ NetFresh w w' V1 c1 cells V2 c2 (tidyW (allPs (pnL L) cells free) W) := by
  subst hn
  have hbA : Below w.heap.size w ((w.alloc (.cells #[.int .i64 a, .int .i64 b, .slice VA cells.length ca, .int .i64 free, .slice VB W.length cb] 44)).alloc (.cells #[.int .i64 0, .int .i64 0, .slice none 0 0, .int .i64 0, .slice none 0 0] 44)) := by (repeat (first | exact Below.refl _ _ | (with_reducible refine Below.drew ?_) | (with_reducible refine Below.alloc ?_ (by (try simp); (try omega)) _) | (with_reducible refine Below.setCell ?_ (by (try simp); (try omega)) _) | (with_reducible refine Below.trans ?_ (Below.mono (by assumption) (by (try simp); (try omega))))))
  have hz0 : RZ (w.heap.size + 1) ((w.alloc (.cells #[.int .i64 a, .int .i64 b, .slice VA cells.length ca, .int .i64 free, .slice VB W.length cb] 44)).alloc (.cells #[.int .i64 0, .int .i64 0, .slice none 0 0, .int .i64 0, .slice none 0 0] 44)) := by
    have := RZ.new (w.alloc (.cells #[.int .i64 a, .int .i64 b, .slice VA cells.length ca, .int .i64 free, .slice VB W.length cb] 44))
    rw [World.size_alloc] at this
    exact this
  have hR0 : RBx ((w.alloc (.cells #[.int .i64 a, .int .i64 b, .slice VA cells.length ca, .int .i64 free, .slice VB W.length cb] 44)).alloc (.cells #[.int .i64 0, .int .i64 0, .slice none 0 0, .int .i64 0, .slice none 0 0] 44)) w.heap.size a b VA cells.length ca free VB W.length cb := ⟨by simp <;> omega, by go_simp, by go_simp, by go_simp, by go_simp, by go_simp⟩
  have HNT : Hid (∀ Z, Below w.heap.size w Z → Calls Try.prog 70 #[.slice A L.length cap, netV VA ca cells free VB cb W] Z fun e w' => ∃ V1 c1 V2 c2, e = .returned (netV V1 c1 cells free V2 c2 (tidyW (allPs (pnL L) cells free) W)) ∧ NetFresh Z w' V1 c1 cells V2 c2 (tidyW (allPs (pnL L) cells free) W)) := fun Z hz =>
    rneat A _ cap L VA VB ca cb cells free W Z rfl (Lib.hid (HL.out.below hz)) hs (Lib.hid (HC.out.below hz)) (Lib.hid (HW.out.below hz)) hc hf hw hok
  generalize tidyW (allPs (pnL L) cells free) W = T at HNT
  have HZ0 := Lib.hid hz0
  have HR0 := Lib.hid hR0
  clear hz0
  go_enter Try.func31, Try.ntmps31
  go_upto_region 1 with fail
  refine absW (fun X => RBx X w.heap.size a b VA cells.length ca free VB W.length cb ∧ RZ (w.heap.size + 1) X ∧ Below w.heap.size w X.drew) ⟨hR0, HZ0.out, hbA.drew⟩ ?_
  rintro X ⟨hRX, hZX, hbX⟩
  have HRX := Lib.hid hRX
  have HZX := Lib.hid hZX
  have HBX := Lib.hid hbX
  have hRd := hRX.below (Below.refl _ X).drew
  have SZ := (show _ ∧ _ ∧ _ ∧ _ ∧ _ from ⟨hRd.c0, hRd.c1, hRd.c2, hRd.c3, hRd.c4⟩)
  clear hRd
  clear HZ0 HR0 hR0 hbA hRX hZX hbX
  go_region_held3 (fun w' => w'.cell? ⟨w.heap.size, 0, none⟩ = some (.int .i64 a) ∧ w'.cell? ⟨w.heap.size, 1, none⟩ = some (.int .i64 b) ∧ w'.cell? ⟨w.heap.size, 2, none⟩ = some (.slice VA cells.length ca) ∧ w'.cell? ⟨w.heap.size, 3, none⟩ = some (.int .i64 free) ∧ w'.cell? ⟨w.heap.size, 4, none⟩ = some (.slice VB W.length cb))
    (first | with_reducible exact SZ | exact keep5s SZ (by omega))
    (first
      | (go_at_call 70; refine (HNT.out _ HBX.out).mono ?_; rintro e w2 ⟨V1, c1, V2, c2, rfl, hnf⟩
         have HNF := Lib.hid hnf
         have hb2 := hnf.1.2.2
         have h2 := HRX.out.below ((Below.refl _ X).drew.trans hb2)
         have SZ := (show _ ∧ _ ∧ _ ∧ _ ∧ _ from ⟨h2.c0, h2.c1, h2.c2, h2.c3, h2.c4⟩)
         have HZ2 := Lib.hid (HZX.out.below ((Below.refl _ X).drew.trans hb2))
         obtain ⟨r0, r1, r2, r3, r4, g0, g1, g2, g3, g4⟩ := HZ2.out.all
         clear hb2 hnf h2))
  all_goals
    go_wp2
    exact bodyPost_ret (v := ruleV a b V1 c1 cells free V2 c2 T) (by simp only [results, Try.results31]; go_simp) rfl ⟨V1, c1, V2, c2, rfl, HNF.out.set5 HBX.out (by omega) (by show _ < X.heap.size; exact HZX.out.lt) _ _ _ _ _⟩
end
end Go.Proofs.Ytcebejcdfdahjaa
