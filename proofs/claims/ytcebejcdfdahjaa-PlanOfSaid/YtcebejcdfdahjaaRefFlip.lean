/-
  Contracts of skeinref15.Faces, Flipped.
-/
import Derived.Test.YtcebejcdfdahjaaRuleOps
namespace Go.Proofs.Ytcebejcdfdahjaa
open Go.RowKit
attribute [local go_sem] cell_set
set_option maxRecDepth 100000
set_option linter.unusedVariables false

/-- A list that is written from its head on. -/
def partL (l : List Int) (k : Nat) : List Int := l.take k ++ List.replicate (l.length - k) 0
theorem partL_0 (l : List Int) : partL l 0 = List.replicate l.length 0 := by simp [partL]
theorem partL_len {l : List Int} {k : Nat} (h : k ≤ l.length) : (partL l k).length = l.length := by simp [partL]; omega
theorem partL_all (l : List Int) : partL l l.length = l := by simp [partL]
theorem partL_succ {l : List Int} {k : Nat} (h : k < l.length) : partL l (k + 1) = (partL l k).set k (l.getD k 0) := by
  have e : l.length - k = (l.length - (k + 1)) + 1 := by omega
  unfold partL
  rw [e, List.replicate_succ, List.set_append_right _ _ (by simp; omega)]
  simp only [List.length_take]
  rw [show k - min k l.length = 0 by omega, List.set_cons_zero, List.take_add_one, List.getElem?_eq_getElem h]
  simp only [List.getD_eq_getElem?_getD, List.getElem?_eq_getElem h, Option.toList_some, Option.getD_some, List.append_assoc, List.singleton_append]
theorem partL_alln {l : List Int} {n : Nat} (h : l.length = n) : partL l n = l := h ▸ partL_all l
section
variable (A : Option Addr) (n cap : Nat) (L : List (ByteArray × Int)) (ka kb na nb : Nat) (VA VB : Option Addr) (ca cb : Nat) (cells : List Int) (W : List (Pt × Pt)) (w : World)
theorem faces (free : Int) (hn : n = L.length) (hl : L.length ≤ maxLen) (HL : Hid (AgRd w A L)) (hka : ka < L.length) (hkb : kb < L.length) (hna : agA L ka = na) (hnb : agA L kb = nb) :
    Calls Try.prog 71 #[.slice A n cap, ruleV ka kb VA ca cells free VB cb W] w fun e w' => e = .returned (.tuple #[.int .i64 na, .int .i64 nb]) ∧ Below w.heap.size w w' := by
  subst hn
  obtain ⟨b1, off1, hA1, hb1, _, ea⟩ := HL.out ka hka
  obtain ⟨b2, off2, hA2, hb2, _, eb⟩ := HL.out kb hkb
  subst hA1
  simp only [Option.some.injEq, Addr.mk.injEq, and_true] at hA2
  obtain ⟨rfl, rfl⟩ := hA2
  rw [hna] at ea
  rw [hnb] at eb
  clear hna hnb
  go_enter Try.func71, Try.ntmps71
  go_wp2_with fail
  go_quiet (fail)
  go_wp2
  exact bodyPost_ret (v := .tuple #[.int .i64 na, .int .i64 nb]) (by simp only [results, Try.results71]; go_simp) rfl ⟨rfl, by first | exact below_drewN ((Below.refl _ _).alloc (Nat.le_refl _) _) _ | (repeat (first | exact Below.refl _ _ | (with_reducible refine Below.drew ?_) | (with_reducible refine Below.alloc ?_ (by (try simp); (try omega)) _) | (with_reducible refine Below.setCell ?_ (by (try simp); (try omega)) _) | (with_reducible refine Below.trans ?_ (Below.mono (by assumption) (by (try simp); (try omega))))))⟩
set_option maxHeartbeats 4000000 in
theorem rflipped (M : Nat) (hM : M = na + nb) (hn : n = L.length) (hl : L.length ≤ maxLen) (HL : Hid (AgRd w A L)) (hs : SigOk L) (HC : Hid (IntsRd w VA cells)) (HW : Hid (WrRd w VB W)) (hc : cells.length ≤ 5000) (hw : W.length ≤ 40000)
    (hka : ka < L.length) (hkb : kb < L.length) (hna : agA L ka = na) (hnb : agA L kb = nb) (hok : Hid (NetOk (pnL L) cells M W)) :
    Calls Try.prog 53 #[.slice A n cap, ruleV ka kb VA ca cells (M : Int) VB cb W] w fun e w' => ∃ V1 c1 V2 c2, e = .returned (ruleV kb ka V1 c1 cells (M : Int) V2 c2 (tidyW (allPs (pnL L) cells M) (moveW (idsN cells.length) (flipN na nb M) W))) ∧
      NetFresh w w' V1 c1 cells V2 c2 (tidyW (allPs (pnL L) cells M) (moveW (idsN cells.length) (flipN na nb M) W)) := by
  subst hn
  have hra := hs.ar ka hka
  have hrb := hs.ar kb hkb
  rw [hna] at hra
  rw [hnb] at hrb
  obtain ⟨i0, hi0, hi1, hi2, hi3⟩ := info_parts int_info
  have hbA : Below w.heap.size w ((w.alloc (.cells #[.int .i64 ka, .int .i64 kb, .slice VA cells.length ca, .int .i64 (M : Int), .slice VB W.length cb] 44)).alloc (.cells #[.int .i64 0, .int .i64 0, .slice none 0 0, .int .i64 0, .slice none 0 0] 44)) := by (repeat (first | exact Below.refl _ _ | (with_reducible refine Below.drew ?_) | (with_reducible refine Below.alloc ?_ (by (try simp); (try omega)) _) | (with_reducible refine Below.setCell ?_ (by (try simp); (try omega)) _) | (with_reducible refine Below.trans ?_ (Below.mono (by assumption) (by (try simp); (try omega))))))
  have hz0 := RZ.new (w.alloc (.cells #[.int .i64 ka, .int .i64 kb, .slice VA cells.length ca, .int .i64 (M : Int), .slice VB W.length cb] 44))
  rw [World.size_alloc] at hz0
  have hR0 : RBx ((w.alloc (.cells #[.int .i64 ka, .int .i64 kb, .slice VA cells.length ca, .int .i64 (M : Int), .slice VB W.length cb] 44)).alloc (.cells #[.int .i64 0, .int .i64 0, .slice none 0 0, .int .i64 0, .slice none 0 0] 44)) w.heap.size ka kb VA cells.length ca (M : Int) VB W.length cb := ⟨by simp <;> omega, by go_simp, by go_simp, by go_simp, by go_simp, by go_simp⟩
  have hfe : eachN (flipN na nb M) M := by rw [hM]; exact flipN_each _ _
  have HMv : Hid (∀ Z VC cc VF cf, Below w.heap.size w Z → IntsRd Z VC (idsN cells.length) → IntsRd Z VF (flipN na nb M) → Calls Try.prog 20 #[.slice A L.length cap, netV VA ca cells (M : Int) VB cb W, .slice VC cells.length cc, .slice VF M cf] Z fun e w' => ∃ V1 c1 V2 c2, e = .returned (netV V1 c1 cells (M : Int) V2 c2 (tidyW (allPs (pnL L) cells M) (moveW (idsN cells.length) (flipN na nb M) W))) ∧
      NetFresh Z w' V1 c1 cells V2 c2 (tidyW (allPs (pnL L) cells M) (moveW (idsN cells.length) (flipN na nb M) W))) := fun Z VC cc VF cf hz hc1 hf1 => by
    have := rmoved A _ cap L VA VB ca cb cells M W VC cells.length cc (idsN cells.length) VF M cf (flipN na nb M) Z rfl (idsN_len _).symm (flipN_len _ _ _).symm (Lib.hid (HL.out.below hz)) hs (Lib.hid (HC.out.below hz)) (Lib.hid (HW.out.below hz)) hc (by omega) hw (Lib.hid hc1) (Lib.hid hf1) hok (Lib.hid (idsN_each _)) (Lib.hid hfe)
    rw [outK_ids] at this
    exact this
  have HFc : Hid (∀ Z, Below w.heap.size w Z → Calls Try.prog 71 #[.slice A L.length cap, ruleV ka kb VA ca cells (M : Int) VB cb W] Z fun e w' => e = .returned (.tuple #[.int .i64 na, .int .i64 nb]) ∧ Below Z.heap.size Z w') := fun Z hz =>
    faces A _ cap L ka kb na nb VA VB ca cb cells W Z _ rfl hl (Lib.hid (HL.out.below hz)) hka hkb hna hnb
  generalize tidyW (allPs (pnL L) cells M) (moveW (idsN cells.length) (flipN na nb M) W) = T at HMv
  have HZ0 := Lib.hid hz0
  have HR0 := Lib.hid hR0
  clear hz0 hs hna hnb hok
  have hmk := @run_make_row' Try.prog
  have hM12 : M ≤ 12 := by omega
  have hsum : IntKind.i64.wrap ((na : Int) + (nb : Int)) = (M : Int) := by rw [IntWalk.i64_in _ (by omega)]; omega
  have HM := Lib.hid hM
  clear hM
  go_enter Try.func53, Try.ntmps53
  go_upto_region 2 with (go_at_call 71; refine (HFc.out _ hbA).mono ?_; rintro e w1 ⟨rfl, hb1'⟩
                         have HZ1 := Lib.hid (HZ0.out.below hb1')
                         have HR1 := Lib.hid (HR0.out.below hb1')
                         have HB1 : Hid (Below w.heap.size w w1) := hbA.trans (hb1'.mono (by simp <;> omega))
                         clear hb1')
  clear hbA HZ0 HR0 hR0 HFc hmk
  have x2 := HR1.out.c2
  go_upto_region 3 with (at_make; refine wpList_make_row _ rfl _ _ _ rfl _ i0 _ (by rfl) hi0 hi1 hi2 (by rfl) .i64 .i64 cells.length (by rfl) (by rfl) (by rw [hi3]; omega) (by omega) ?_)
  refine absW (fun X => Row X 3 1 (.slice (some ⟨w1.heap.size, 0, none⟩) cells.length cells.length) cells.length (ivals (partL (idsN cells.length) 0)) ∧ Below w1.heap.size w1 X)
    ⟨by rw [partL_0, idsN_len, ivals_replicate]; exact Row.made w1 _ _ cells.length (by unfold maxLen; omega), (Below.refl _ _).alloc (Nat.le_refl _) _⟩ ?_
  rintro X ⟨hrx, hbx⟩
  have HX := Lib.hid (And.intro hrx hbx)
  clear hrx hbx x2
  go_wp2_with fail
  go_loopw [8] (fun i wr => ∃ k : Nat, i = .int .i64 k ∧ k ≤ cells.length ∧ Hid (Row wr 3 1 (.slice (some ⟨w1.heap.size, 0, none⟩) cells.length cells.length) cells.length (ivals (partL (idsN cells.length) k)) ∧ Below w1.heap.size w1 wr)) (fun i _ => cells.length - (intOf i).toNat)
  case atStart => exact ⟨0, rfl, by omega, HX⟩
  case round =>
    obtain ⟨k, rfl, hk, HR⟩ := hrel
    clear HX
    by_cases hlt : k < cells.length
    · have s0 : wr.frozen? ⟨w1.heap.size, k, none⟩ = false := HR.out.1.frozenAt k
      obtain ⟨u1, s2⟩ : ∃ u, wr.cell? ⟨w1.heap.size, k, none⟩ = some u := ⟨_, (HR.out.1.cellAt k (by omega)).trans (List.getElem?_eq_getElem (by rw [HR.out.1.1]; omega))⟩
      go_wp2
      go_roundw
      case rel =>
        have hR8 := HR.out.1.set k (.int .i64 (k : Int))
        have hB8 := HR.out.2.setCell (p := ⟨w1.heap.size, k, none⟩) (Nat.le_refl _) (.int .i64 (k : Int))
        have e := partL_succ (l := idsN cells.length) (k := k) (by rw [idsN_len]; exact hlt)
        rw [idsN_at hlt] at e
        rw [ivals_set, ← e] at hR8
        exact ⟨k + 1, by go_num, by omega, hR8, hB8⟩
      case measure => simp [intOf]; omega
    · obtain rfl : k = cells.length := by omega
      have hbr := HR.out.2
      have HRr := Lib.hid (HR1.out.below hbr)
      have HZr := Lib.hid (HZ1.out.below hbr)
      have HBr : Hid (Below w.heap.size w wr) := HB1.out.trans (hbr.mono HB1.out.size)
      have HI1 : Hid (IntsRd wr (some ⟨w1.heap.size, 0, none⟩) (idsN cells.length)) := Row.ints (cap := cells.length) (by have := HR.out.1; rw [partL_alln (idsN_len _)] at this; rw [idsN_len]; exact this)
      clear hbr HR
      obtain ⟨wo, hwo⟩ : ∃ wo, wo = wr := ⟨_, rfl⟩
      subst hwo
      go_upto_region 8 with (at_make; refine wpList_make_row _ rfl _ _ _ rfl _ i0 _ (by rfl) hi0 hi1 hi2 (by rfl) .i64 .i64 M (by rfl) (by rfl) (by rw [hi3]; omega) (by omega) ?_)
      refine absW (fun X => Row X 3 1 (.slice (some ⟨wo.heap.size, 0, none⟩) M M) M (ivals (partL (flipN na nb M) 0)) ∧ Below wo.heap.size wo X)
        ⟨by rw [partL_0, flipN_len, ivals_replicate]; exact Row.made wo _ _ M (by unfold maxLen; omega), (Below.refl _ _).alloc (Nat.le_refl _) _⟩ ?_
      rintro X ⟨hrx, hbx⟩
      have HX := Lib.hid (And.intro hrx hbx)
      clear hrx hbx
      go_wp2_with fail
      go_loopw [10] (fun i wr => ∃ k : Nat, i = .int .i64 k ∧ k ≤ M ∧ Hid (Row wr 3 1 (.slice (some ⟨wo.heap.size, 0, none⟩) M M) M (ivals (partL (flipN na nb M) k)) ∧ Below wo.heap.size wo wr)) (fun i _ => M - (intOf i).toNat)
      case atStart => exact ⟨0, rfl, by omega, HX⟩
      case round =>
        obtain ⟨k, rfl, hk2, HR⟩ := hrel
        clear HX
        by_cases hlt2 : k < M
        · have s0 : wr.frozen? ⟨wo.heap.size, k, none⟩ = false := HR.out.1.frozenAt k
          obtain ⟨u1, s2⟩ : ∃ u, wr.cell? ⟨wo.heap.size, k, none⟩ = some u := ⟨_, (HR.out.1.cellAt k (by omega)).trans (List.getElem?_eq_getElem (by rw [HR.out.1.1]; omega))⟩
          have HNX : Hid (partL (flipN na nb M) (k + 1) = (partL (flipN na nb M) k).set k (if k < na then ((nb + k : Nat) : Int) else ((k - na : Nat) : Int))) := by
            have e := partL_succ (l := flipN na nb M) (k := k) (by rw [flipN_len]; exact hlt2)
            rw [flipN_at hlt2] at e
            exact e
          by_cases hka2 : k < na
          · have hw1 : IntKind.i64.wrap ((nb : Int) + (k : Int)) = ((nb + k : Nat) : Int) := by rw [IntWalk.i64_in _ (by omega)]; omega
            go_wp2
            go_roundw
            case rel =>
              have hR8 := HR.out.1.set k (.int .i64 ((nb + k : Nat) : Int))
              have hB8 := HR.out.2.setCell (p := ⟨wo.heap.size, k, none⟩) (Nat.le_refl _) (.int .i64 ((nb + k : Nat) : Int))
              have e := HNX.out
              rw [if_pos hka2] at e
              rw [ivals_set, ← e] at hR8
              exact ⟨k + 1, by go_num, by omega, by first | exact ⟨hR8, hB8⟩ | simpa using And.intro hR8 hB8⟩
            case measure => simp [intOf]; omega
          · have hw1 : IntKind.i64.wrap ((k : Int) - (na : Int)) = ((k - na : Nat) : Int) := by rw [IntWalk.i64_in _ (by omega)]; omega
            go_wp2
            go_roundw
            case rel =>
              have hR8 := HR.out.1.set k (.int .i64 ((k - na : Nat) : Int))
              have hB8 := HR.out.2.setCell (p := ⟨wo.heap.size, k, none⟩) (Nat.le_refl _) (.int .i64 ((k - na : Nat) : Int))
              have e := HNX.out
              rw [if_neg hka2] at e
              rw [ivals_set, ← e] at hR8
              exact ⟨k + 1, by go_num, by omega, by first | exact ⟨hR8, hB8⟩ | simpa using And.intro hR8 hB8⟩
            case measure => simp [intOf]; omega
        · obtain rfl : M = k := by omega
          have hbr := HR.out.2
          have HRq := Lib.hid (HRr.out.below hbr)
          have HZq := Lib.hid (HZr.out.below hbr)
          have HBq : Hid (Below w.heap.size w wr) := HBr.out.trans (hbr.mono HBr.out.size)
          have HI2 : Hid (IntsRd wr (some ⟨wo.heap.size, 0, none⟩) (flipN na nb M)) := Row.ints (cap := M) (by have := HR.out.1; rw [partL_alln (flipN_len _ _ _)] at this; rw [flipN_len]; exact this)
          have HI1q := Lib.hid (HI1.out.below hbr)
          clear hbr HR
          go_upto_region 14 with fail
          have hRd := HRq.out.below (Below.refl _ wr).drew
          have SZ := (show _ ∧ _ ∧ _ ∧ _ ∧ _ from ⟨hRd.c0, hRd.c1, hRd.c2, hRd.c3, hRd.c4⟩)
          clear hRd
          go_region_held3 (fun w' => w'.cell? ⟨w.heap.size, 0, none⟩ = some (.int .i64 ka) ∧ w'.cell? ⟨w.heap.size, 1, none⟩ = some (.int .i64 kb) ∧ w'.cell? ⟨w.heap.size, 2, none⟩ = some (.slice VA cells.length ca) ∧ w'.cell? ⟨w.heap.size, 3, none⟩ = some (.int .i64 (M : Int)) ∧ w'.cell? ⟨w.heap.size, 4, none⟩ = some (.slice VB W.length cb))
            (first | with_reducible exact SZ | exact keep5s SZ (by omega))
            (first
              | (go_at_call 20; refine (HMv.out _ _ _ _ _ HBq.out.drew (HI1q.out.below (Below.refl _ _).drew) (HI2.out.below (Below.refl _ _).drew)).mono ?_; rintro e w2 ⟨V3, c3, V4, c4, rfl, hnf⟩
                 have HNF := Lib.hid hnf
                 have hb2 := (Below.refl _ wr).drew.trans hnf.1.2.2
                 have h2 := HRq.out.below hb2
                 have SZ := (show _ ∧ _ ∧ _ ∧ _ ∧ _ from ⟨h2.c0, h2.c1, h2.c2, h2.c3, h2.c4⟩)
                 have HZ2 := Lib.hid (HZq.out.below hb2)
                 obtain ⟨r0, r1, r2, r3, r4, g0, g1, g2, g3, g4⟩ := HZ2.out.all
                 clear hb2 hnf h2))
          all_goals
            go_wp2
            exact bodyPost_ret (v := ruleV kb ka V3 c3 cells (M : Int) V4 c4 T) (by simp only [results, Try.results53]; go_simp) rfl ⟨V3, c3, V4, c4, rfl, HNF.out.set5 HBq.out.drew (by omega) (by show _ < wr.heap.size; exact HZq.out.lt) _ _ _ _ _⟩
end
end Go.Proofs.Ytcebejcdfdahjaa
