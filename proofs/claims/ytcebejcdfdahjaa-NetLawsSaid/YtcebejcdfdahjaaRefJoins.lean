/-
  skeinref03.Joins: are joins as they must be?
-/
import Derived.Test.YtcebejcdfdahjaaPlugNets
import Derived.Test.YtcebejcdfdahjaaRef03N
import Derived.Test.YtcebejcdfdahjaaNetTop
import Derived.Deep.QuietTactic
import Derived.BigQuiet
import Derived.Deep.LoopGhost
namespace Go.Proofs.Ytcebejcdfdahjaa
open Go.RowKit
attribute [local go_sem] cell_set
set_option maxRecDepth 100000
set_option linter.unusedVariables false

theorem jOk_iff {fA fB : Nat} {J : List (Int × Int)} : JOk fA fB J ↔ (∀ j ∈ J, 0 ≤ j.1 ∧ j.1 < fA ∧ 0 ≤ j.2 ∧ j.2 < fB) ∧ (J.map Prod.fst).Nodup ∧ (J.map Prod.snd).Nodup := ⟨fun h => ⟨h.r, h.a, h.b⟩, fun h => ⟨h.1, h.2.1, h.2.2⟩⟩
instance (fA fB : Nat) (J : List (Int × Int)) : Decidable (JOk fA fB J) := decidable_of_iff _ jOk_iff.symm
theorem jOk_take {fA fB : Nat} {J : List (Int × Int)} (h : JOk fA fB J) (k : Nat) : JOk fA fB (J.take k) :=
  ⟨fun j hj => h.r j (List.mem_of_mem_take hj), by rw [List.map_take]; exact h.a.sublist (List.take_sublist _ _), by rw [List.map_take]; exact h.b.sublist (List.take_sublist _ _)⟩
theorem jOk_snoc {fA fB : Nat} {J : List (Int × Int)} {k : Nat} (hk : k < J.length) : JOk fA fB (J.take (k + 1)) ↔ JOk fA fB (J.take k) ∧ (0 ≤ (J.getD k default).1 ∧ (J.getD k default).1 < fA ∧ 0 ≤ (J.getD k default).2 ∧ (J.getD k default).2 < fB) ∧ ∀ m, m < k → (J.getD m default).1 ≠ (J.getD k default).1 ∧ (J.getD m default).2 ≠ (J.getD k default).2 := by
  have hg : ∀ m, m < J.length → J.getD m default = J.getD m default ∧ J[m]? = some (J.getD m default) := fun m hm => by
    rw [List.getD_eq_getElem?_getD, List.getElem?_eq_getElem hm]; exact ⟨rfl, rfl⟩
  have e : J.take (k + 1) = J.take k ++ [J.getD k default] := by rw [List.take_add_one, (hg k hk).2]; rfl
  have hin : ∀ x, x ∈ J.take k ↔ ∃ m, m < k ∧ J.getD m default = x := fun x => by
    constructor
    · intro hx
      obtain ⟨m, hm, rfl⟩ := List.mem_iff_getElem.1 hx
      have hm' : m < k := by simp at hm; omega
      refine ⟨m, hm', ?_⟩
      rw [List.getD_eq_getElem?_getD, List.getElem?_eq_getElem (by omega), List.getElem_take]; rfl
    · rintro ⟨m, hm, rfl⟩
      have := (hg m (by omega)).2
      exact List.mem_of_getElem? (i := m) (by rw [List.getElem?_take, if_pos hm]; exact this)
  rw [e]
  constructor
  · intro h
    have h1 : JOk fA fB (J.take k) := by have := jOk_take h k; rwa [List.take_append_of_le_length (by simp; omega), List.take_take, Nat.min_self] at this
    refine ⟨h1, h.r _ (by simp), fun m hm => ?_⟩
    have ha := h.a
    have hb := h.b
    rw [List.map_append, List.nodup_append] at ha hb
    have hmm := (hin _).2 ⟨m, hm, rfl⟩
    exact ⟨ha.2.2 _ (List.mem_map_of_mem hmm) _ (by simp), hb.2.2 _ (List.mem_map_of_mem hmm) _ (by simp)⟩
  · rintro ⟨h1, h2, h3⟩
    refine ⟨fun j hj => ?_, ?_, ?_⟩
    · rcases List.mem_append.1 hj with hj | hj
      · exact h1.r j hj
      · rw [List.mem_singleton.1 hj]; exact h2
    · rw [List.map_append, List.nodup_append]
      refine ⟨h1.a, by simp, fun x hx y hy => ?_⟩
      obtain ⟨p, hp, rfl⟩ := List.mem_map.1 hx
      obtain ⟨m, hm, rfl⟩ := (hin p).1 hp
      simp at hy
      rw [hy]
      exact (h3 m hm).1
    · rw [List.map_append, List.nodup_append]
      refine ⟨h1.b, by simp, fun x hx y hy => ?_⟩
      obtain ⟨p, hp, rfl⟩ := List.mem_map.1 hx
      obtain ⟨m, hm, rfl⟩ := (hin p).1 hp
      simp at hy
      rw [hy]
      exact (h3 m hm).2
/-- A pair of ints in a box of its own. -/
def PtBy (X : World) (b : Nat) (p : Int × Int) : Prop := X.heap[b]? = some (.cells #[.int .i64 p.1, .int .i64 p.2] 66 (0, 0))
theorem PtBy.cells {X : World} {b : Nat} {p : Int × Int} (h : PtBy X b p) : X.cell? ⟨b, 0, none⟩ = some (.int .i64 p.1) ∧ X.cell? ⟨b, 1, none⟩ = some (.int .i64 p.2) ∧ b < X.heap.size := by
  have h' : X.heap[b]? = some (.cells #[.int .i64 p.1, .int .i64 p.2] 66 (0, 0)) := h
  refine ⟨?_, ?_, heap_lt h'⟩ <;> simp [World.cell?, h']
theorem PtBy.below {X X' : World} {b : Nat} {p : Int × Int} (h : PtBy X b p) (hb : Below X.heap.size X X') : PtBy X' b p := (hb.block b (heap_lt h)).trans h
section
variable (VA VB UA UB : Option Addr) (ca cb da db : Nat) (csA csB : List Int) (fA fB : Nat) (WA WB : List (Pt × Pt)) (V : Option Addr) (n cap : Nat) (J : List (Int × Int)) (w : World)
set_option maxHeartbeats 4000000 in
theorem rjoins (hn : n = J.length) (HV : Hid (PtsRd w V J)) (hJl : J.length ≤ 100000) :
    Calls Try.prog 33 #[netV VA ca csA fA VB cb WA, netV UA da csB fB UB db WB, .slice V n cap] w fun e w' => e = .returned (.bool (decide (JOk fA fB J))) ∧ Below w.heap.size w w' := by
  subst hn
  obtain ⟨r, hr⟩ : ∃ r, decide (JOk fA fB J) = r := ⟨_, rfl⟩
  rw [hr]
  have HR := Lib.hid hr
  clear hr
  go_enter Try.func33, Try.ntmps33
  go_upto_region 1 with fail
  refine absW (fun X => Below w.heap.size w X ∧ NBox X w.heap.size VA csA.length ca fA VB WA.length cb ∧ NBox X (w.heap.size + 1) UA csB.length da fB UB WB.length db) ⟨by (repeat (first | exact Below.refl _ _ | (with_reducible refine Below.drew ?_) | (with_reducible refine Below.alloc ?_ (by (try simp); (try omega)) _) | (with_reducible refine Below.setCell ?_ (by (try simp); (try omega)) _) | (with_reducible refine Below.trans ?_ (Below.mono (by assumption) (by (try simp); (try omega)))))), ⟨by simp <;> omega, by go_simp, by go_simp, by go_simp⟩, ⟨by simp, by go_simp, by go_simp, by go_simp⟩⟩ ?_
  rintro X ⟨hbx, hna, hnb⟩
  have HX := Lib.hid (And.intro hbx (And.intro hna hnb))
  clear hbx hna hnb
  have HX0 := Lib.hid (Below.refl X.heap.size X)
  go_wp2_with fail
  go_loopw [7] (fun i wr => ∃ k : Nat, i = .int .i64 k ∧ k ≤ J.length ∧ Hid (JOk fA fB (J.take k)) ∧ Hid (Below X.heap.size X wr)) (fun i _ => J.length - (intOf i).toNat)
  case atStart => exact ⟨0, rfl, Nat.zero_le _, Lib.hid ⟨by simp, by simp, by simp⟩, HX0⟩
  case round =>
    obtain ⟨k, rfl, hk, HK, HB⟩ := hrel
    clear HX0
    have hna := HX.out.2.1.below HB.out
    have hnb := HX.out.2.2.below HB.out
    have n1 := hna.c1
    have m1 := hnb.c1
    have nl := hna.lt
    have ml := hnb.lt
    clear hna hnb
    have HBw := Lib.hid (HX.out.1.trans (HB.out.mono HX.out.1.size))
    by_cases hlt : k < J.length
    · obtain ⟨g, o, rfl, hg, c0, c1⟩ := (HV.out.below HBw.out) k hlt
      have HS := Lib.hid (jOk_snoc (fA := fA) (fB := fB) hlt)
      obtain ⟨a, b, hab⟩ : ∃ a b, J.getD k default = (a, b) := ⟨_, _, rfl⟩
      rw [hab] at c0 c1 HS
      dsimp only at c0 c1 HS
      have HAB := Lib.hid hab
      clear hab
      have hno : ¬ (0 ≤ a ∧ a < fA ∧ 0 ≤ b ∧ b < fB) → r = false := fun h => by rw [← HR.out]; exact decide_eq_false fun hj => h ((HS.out.1 (jOk_take hj (k + 1))).2.1)
      have HNo := Lib.hid hno
      clear hno
      by_cases h1 : a < 0
      · have hrf := HNo.out (by omega)
        have HRf := Lib.hid hrf
        clear hrf
        go_wp2_with fail
        go_ret
        exact ⟨by rw [HRf.out]; rfl, by have := HBw.out; (repeat (first | exact Below.refl _ _ | (with_reducible refine Below.drew ?_) | (with_reducible refine Below.alloc ?_ (by (try simp); (try omega)) _) | (with_reducible refine Below.setCell ?_ (by (try simp); (try omega)) _) | (with_reducible refine Below.trans ?_ (Below.mono (by assumption) (by (try simp); (try omega))))))⟩
      · by_cases h2 : (fA : Int) ≤ a
        · have hrf := HNo.out (by omega)
          have HRf := Lib.hid hrf
          clear hrf
          go_wp2_with fail
          go_ret
          exact ⟨by rw [HRf.out]; rfl, by have := HBw.out; (repeat (first | exact Below.refl _ _ | (with_reducible refine Below.drew ?_) | (with_reducible refine Below.alloc ?_ (by (try simp); (try omega)) _) | (with_reducible refine Below.setCell ?_ (by (try simp); (try omega)) _) | (with_reducible refine Below.trans ?_ (Below.mono (by assumption) (by (try simp); (try omega))))))⟩
        · by_cases h3 : b < 0
          · have hrf := HNo.out (by omega)
            have HRf := Lib.hid hrf
            clear hrf
            go_wp2_with fail
            go_ret
            exact ⟨by rw [HRf.out]; rfl, by have := HBw.out; (repeat (first | exact Below.refl _ _ | (with_reducible refine Below.drew ?_) | (with_reducible refine Below.alloc ?_ (by (try simp); (try omega)) _) | (with_reducible refine Below.setCell ?_ (by (try simp); (try omega)) _) | (with_reducible refine Below.trans ?_ (Below.mono (by assumption) (by (try simp); (try omega))))))⟩
          · by_cases h4 : (fB : Int) ≤ b
            · have hrf := HNo.out (by omega)
              have HRf := Lib.hid hrf
              clear hrf
              go_wp2_with fail
              go_ret
              exact ⟨by rw [HRf.out]; rfl, by have := HBw.out; (repeat (first | exact Below.refl _ _ | (with_reducible refine Below.drew ?_) | (with_reducible refine Below.alloc ?_ (by (try simp); (try omega)) _) | (with_reducible refine Below.setCell ?_ (by (try simp); (try omega)) _) | (with_reducible refine Below.trans ?_ (Below.mono (by assumption) (by (try simp); (try omega))))))⟩
            · have HB2 : Hid (Below wr.heap.size wr (wr.alloc (.cells #[.int .i64 a, .int .i64 b] 66))) := Lib.hid ((Below.refl _ _).alloc (Nat.le_refl _) _)
              go_upto_region 7 with fail
              refine absW (fun Y => Below wr.heap.size wr Y ∧ PtBy Y wr.heap.size (a, b)) ⟨HB2.out, heap_alloc_new wr _⟩ ?_
              rintro Y ⟨hby, hpy⟩
              have HY := Lib.hid (And.intro hby hpy)
              have HY0 := Lib.hid (Below.refl Y.heap.size Y)
              clear hby hpy HB2 c0 c1 n1 m1 nl ml
              go_wp2_with fail
              go_loopw [9] (fun i wr2 => ∃ q : Nat, i = .int .i64 q ∧ q ≤ k ∧ Hid (∀ m, m < q → (J.getD m default).1 ≠ a ∧ (J.getD m default).2 ≠ b) ∧ Hid (Below Y.heap.size Y wr2)) (fun i _ => k - (intOf i).toNat)
              case atStart => exact ⟨0, rfl, Nat.zero_le _, Lib.hid (fun m hm => by omega), HY0⟩
              case round =>
                obtain ⟨q, rfl, hq, HQ, HB3⟩ := hrel
                clear HY0
                have HB4 := Lib.hid (HBw.out.trans ((HY.out.1.trans (HB3.out.mono HY.out.1.size)).mono HBw.out.size))
                obtain ⟨z0, z1, zl⟩ := PtBy.cells (PtBy.below HY.out.2 HB3.out)
                dsimp only at z0 z1
                by_cases hql : q < k
                · obtain ⟨g', o', e', hg', d0, d1⟩ := (HV.out.below HB4.out) q (by omega)
                  simp only [Option.some.injEq, Addr.mk.injEq, and_true] at e'
                  obtain ⟨rfl, rfl⟩ := e'
                  obtain ⟨x, y, hxy⟩ : ∃ x y, J.getD q default = (x, y) := ⟨_, _, rfl⟩
                  rw [hxy] at d0 d1
                  dsimp only at d0 d1
                  have HXY := Lib.hid hxy
                  clear hxy
                  have hbad : x = a ∨ y = b → r = false := fun h => by
                    rw [← HR.out]
                    refine decide_eq_false fun hj => ?_
                    have := (HS.out.1 (jOk_take hj (k + 1))).2.2 q hql
                    rw [HXY.out] at this
                    rcases h with h | h
                    · exact this.1 h
                    · exact this.2 h
                  have HBad := Lib.hid hbad
                  clear hbad
                  by_cases e1 : x = a
                  · have HRf := Lib.hid (HBad.out (.inl e1))
                    subst e1
                    go_wp2_with fail
                    go_quiet (fail)
                    go_wp2_with fail
                    go_ret
                    exact ⟨by rw [HRf.out]; rfl, below_drewN HB4.out _⟩
                  · have e1' : (x == a) = false := by simpa using e1
                    by_cases e2 : y = b
                    · have HRf := Lib.hid (HBad.out (.inr e2))
                      subst e2
                      go_wp2_with fail
                      go_quiet (fail)
                      go_wp2_with fail
                      go_ret
                      exact ⟨by rw [HRf.out]; rfl, below_drewN HB4.out _⟩
                    · have e2' : (y == b) = false := by simpa using e2
                      go_wp2_with fail
                      go_quiet (fail)
                      go_wp2_with fail
                      go_roundw
                      case measure => simp [intOf]; omega
                      case rel =>
                        refine ⟨q + 1, by go_num, by omega, Lib.hid fun m hm => ?_, Lib.hid (below_drewN HB3.out _)⟩
                        by_cases h : m = q
                        · subst h; rw [HXY.out]; exact ⟨e1, e2⟩
                        · exact HQ.out m (by omega)
                · have hqk : q = k := by omega
                  subst hqk
                  have HK2 : Hid (JOk fA fB (J.take (q + 1))) := Lib.hid (HS.out.2 ⟨HK.out, ⟨by omega, by omega, by omega, by omega⟩, HQ.out⟩)
                  have HB5 : Hid (Below X.heap.size X wr) := Lib.hid (HB.out.trans ((HY.out.1.trans (HB3.out.mono HY.out.1.size)).mono HB.out.size))
                  go_wp2_with fail
                  go_roundw
                  case measure => simp [intOf]; omega
                  case rel => exact ⟨q + 1, by go_num, by omega, HK2, HB5⟩
    · have hr : r = true := by
        rw [← HR.out]
        have : k = J.length := by omega
        subst this
        have := HK.out
        rw [List.take_length] at this
        exact decide_eq_true this
      have HRt := Lib.hid hr
      clear hr
      go_wp2_with fail
      go_ret
      exact ⟨by rw [HRt.out]; rfl, HBw.out⟩
end
end Go.Proofs.Ytcebejcdfdahjaa
