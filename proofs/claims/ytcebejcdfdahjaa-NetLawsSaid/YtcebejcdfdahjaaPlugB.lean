/-
  net.Plug: the map of twins.
-/
import Derived.Test.YtcebejcdfdahjaaPlugA
import Derived.Test.YtcebejcdfdahjaaPlugTwin
import Derived.Test.YtcebejcdfdahjaaRefJoins
import Derived.Deep.DeepCutAuto
namespace Go.Proofs.Ytcebejcdfdahjaa
open Go.RowKit
attribute [local go_sem] cell_set
set_option maxRecDepth 100000
set_option linter.unusedVariables false

def twF (J : List (Int × Int)) (x : Sd) : Option Value := (twJ J x).map encS
theorem twF_snoc {J : List (Int × Int)} {j : Int × Int} (h1 : twJ J (false, (-1, j.1)) = none) (h2 : twJ J (true, (-1, j.2)) = none) :
    twF (J ++ [j]) = upd (upd (twF J) (false, (-1, j.1)) (encS (true, (-1, j.2)))) (true, (-1, j.2)) (encS (false, (-1, j.1))) := by
  funext x
  unfold twF upd
  rw [twJ_snoc]
  by_cases e2 : x = (true, (-1, j.2))
  · subst e2
    rw [if_pos rfl, h2, if_neg (by simp), if_pos rfl]; rfl
  · rw [if_neg e2, if_neg e2]
    by_cases e1 : x = (false, (-1, j.1))
    · subst e1
      rw [if_pos rfl, h1, if_pos rfl]; rfl
    · rw [if_neg e1, if_neg e1, Option.or_none]
theorem twF_nil : twF [] = fun _ => none := rfl
/-- The next pair of joins does just if it is in range and neither is joined. -/
theorem jOk_next {fA fB : Nat} {J : List (Int × Int)} {k : Nat} (hk : k < J.length) (h : JOk fA fB (J.take k)) :
    JOk fA fB (J.take (k + 1)) ↔ (0 ≤ (J.getD k default).1 ∧ (J.getD k default).1 < fA ∧ 0 ≤ (J.getD k default).2 ∧ (J.getD k default).2 < fB) ∧ twJ (J.take k) (false, (-1, (J.getD k default).1)) = none ∧ twJ (J.take k) (true, (-1, (J.getD k default).2)) = none := by
  have hin : ∀ x, x ∈ J.take k ↔ ∃ m, m < k ∧ J.getD m default = x := fun x => by
    constructor
    · intro hx
      obtain ⟨m, hm, rfl⟩ := List.mem_iff_getElem.1 hx
      have hm' : m < k := by simp at hm; omega
      refine ⟨m, hm', ?_⟩
      rw [List.getD_eq_getElem?_getD, List.getElem?_eq_getElem (by omega), List.getElem_take]; rfl
    · rintro ⟨m, hm, rfl⟩
      have : J[m]? = some (J.getD m default) := by rw [List.getD_eq_getElem?_getD, List.getElem?_eq_getElem (by omega)]; rfl
      exact List.mem_of_getElem? (i := m) (by rw [List.getElem?_take, if_pos hm]; exact this)
  have hs := twJ_spec (J.take k) h.a h.b
  have n1 : twJ (J.take k) (false, (-1, (J.getD k default).1)) = none ↔ ∀ m, m < k → (J.getD m default).1 ≠ (J.getD k default).1 := by
    constructor
    · intro hn m hm e
      have := (hs (false, (-1, (J.getD k default).1)) (true, (-1, (J.getD m default).2))).2 ⟨_, (hin _).2 ⟨m, hm, rfl⟩, .inl ⟨by rw [e], rfl⟩⟩
      rw [hn] at this; cases this
    · intro hall
      cases ht : twJ (J.take k) (false, (-1, (J.getD k default).1)) with
      | none => rfl
      | some y =>
        obtain ⟨j, hj, (⟨e, _⟩ | ⟨e, _⟩)⟩ := (hs _ _).1 ht
        · obtain ⟨m, hm, rfl⟩ := (hin j).1 hj
          simp only [Prod.mk.injEq, true_and] at e
          exact absurd e.symm (hall m hm)
        · simp at e
  have n2 : twJ (J.take k) (true, (-1, (J.getD k default).2)) = none ↔ ∀ m, m < k → (J.getD m default).2 ≠ (J.getD k default).2 := by
    constructor
    · intro hn m hm e
      have := (hs (true, (-1, (J.getD k default).2)) (false, (-1, (J.getD m default).1))).2 ⟨_, (hin _).2 ⟨m, hm, rfl⟩, .inr ⟨by rw [e], rfl⟩⟩
      rw [hn] at this; cases this
    · intro hall
      cases ht : twJ (J.take k) (true, (-1, (J.getD k default).2)) with
      | none => rfl
      | some y =>
        obtain ⟨j, hj, (⟨e, _⟩ | ⟨e, _⟩)⟩ := (hs _ _).1 ht
        · simp at e
        · obtain ⟨m, hm, rfl⟩ := (hin j).1 hj
          simp only [Prod.mk.injEq, true_and] at e
          exact absurd e.symm (hall m hm)
  rw [jOk_snoc hk, n1, n2]
  exact ⟨fun ⟨_, h2, h3⟩ => ⟨h2, fun m hm => (h3 m hm).1, fun m hm => (h3 m hm).2⟩, fun ⟨h2, h3, h4⟩ => ⟨h, h2, fun m hm => ⟨h3 m hm, h4 m hm⟩⟩⟩

theorem two_new (Y : World) (o1 o2 : Obj) : ((Y.alloc o1).alloc o2).drew.heap[Y.heap.size]? = some o1 ∧ ((Y.alloc o1).alloc o2).drew.heap[Y.heap.size + 1]? = some o2 ∧ Below Y.heap.size Y ((Y.alloc o1).alloc o2).drew := by
  refine ⟨?_, ?_, (((Below.refl _ _).alloc (Nat.le_refl _) _).alloc (by simp) _).drew⟩
  · show ((Y.alloc o1).alloc o2).heap[Y.heap.size]? = _
    rw [Below.heap_alloc _ _ _ (by simp)]
    exact heap_alloc_new _ _
  · have := heap_alloc_new (Y.alloc o1) o2
    rwa [World.size_alloc] at this
section
variable (Q : Exit → Act → World → Prop) (w : World) (VA VB UA UB V : Option Addr) (na ca wa cb nb da wb db nJ cJ : Nat) (fA fB : Nat) (J : List (Int × Int)) (v0 : Value)
/-- The loop's state, k joins seen. -/
def R7 (bt mt k : Nat) (a : Act) (X : World) : Prop :=
  FrN 234 [] [(0, v0), (3, .slice V nJ cJ), (5, .pointer (some ⟨w.heap.size, 0, none⟩)), (6, .pointer (some ⟨w.heap.size + 1, 0, none⟩)), (8, .pointer (some ⟨w.heap.size + 2, 0, none⟩)), (12, .pointer (some ⟨bt, 0, none⟩)), (56, .slice V nJ cJ), (57, .int .i64 (nJ : Int)), (58, .int .i64 (k : Int))] a ∧
  GB w VA VB UA UB na ca wa cb nb da wb db fA fB X ∧ X.heap[bt]? = some (.cells #[.map (some mt)] 115 (0, 0)) ∧ MP encS X mt (twF (J.take k)) ∧ JOk fA fB (J.take k) ∧ w.heap.size + 3 ≤ bt ∧ w.heap.size + 3 ≤ mt ∧ bt ≠ mt
set_option maxHeartbeats 4000000 in
theorem gr_7 (bt mt k : Nat) (a : Act) (X : World) (hnJ : nJ = J.length) (HJ : Hid (PtsRd w V J)) (hJl : J.length ≤ 100000) (hk : k ≤ J.length)
    (hgo : Hid (∀ a' X', k < J.length → R7 w VA VB UA UB V na ca wa cb nb da wb db nJ cJ fA fB J v0 bt mt (k + 1) a' X' → Q .normal a' X'))
    (hout : Hid (∀ a' X', k = J.length → R7 w VA VB UA UB V na ca wa cb nb da wb db nJ cJ fA fB J v0 bt mt k a' X' → Q (.exit 0) a' X'))
    (hbad : Hid (¬ JOk fA fB J → ∀ a' X', FrN 234 [] [(8, .pointer (some ⟨w.heap.size + 2, 0, none⟩)), (9, .int .i64 1)] a' → GB w VA VB UA UB na ca wa cb nb da wb db fA fB X' → Q .ret a' X'))
    (hR : R7 w VA VB UA UB V na ca wa cb nb da wb db nJ cJ fA fB J v0 bt mt k a X) : (gpT 9).wp Try.prog Q a X := by
  subst hnJ
  obtain ⟨ha, hg, hbt, hmp, hj, l1, l2, hne⟩ := hR
  obtain ⟨U, rfl, e0, e3, e5, e6, e8, e12, e56, e57, e58, -⟩ := ha.open
  have HS := Lib.hid (And.intro hg (And.intro hbt (And.intro hmp hj)))
  unfold FrGL
  simp only [e0, e3, e5, e6, e8, e12, e56, e57, e58]
  clear e0 e3 e5 e6 e8 e12 e56 e57 e58 ha hg hbt hmp hj
  show (Code.seq _ _).wp _ _ _ _
  by_cases hlt : k < J.length
  · obtain ⟨g, o, rfl, hgl, c0, c1⟩ := (HJ.out.below HS.out.1.bel) k hlt
    have hsn := jOk_next hlt HS.out.2.2.2
    have htk : J.take (k + 1) = J.take k ++ [J.getD k default] := by rw [List.take_add_one, List.getD_eq_getElem?_getD, List.getElem?_eq_getElem hlt]; rfl
    have HTk := Lib.hid htk
    clear htk
    have HSn := Lib.hid hsn
    clear hsn
    obtain ⟨p, q, hpq⟩ : ∃ p q, J.getD k default = (p, q) := ⟨_, _, rfl⟩
    rw [hpq] at c0 c1 HSn HTk
    dsimp only at c0 c1 HSn
    have HPQ := Lib.hid hpq
    clear hpq
    go_upto_region 11 with fail
    refine absW (fun Y => Below X.heap.size X Y ∧ PtBy Y X.heap.size (p, q)) ⟨(Below.refl _ _).alloc (Nat.le_refl _) _, heap_alloc_new X _⟩ ?_
    rintro Y ⟨hby, hpy⟩
    obtain ⟨d0, d1, dl⟩ := hpy.cells
    have HY := Lib.hid (And.intro hby hpy)
    clear hby hpy c0 c1
    go_cut [15, 16] from 59 to 233 (fun u v wx => ∃ bx bq, u = .pointer (some ⟨bx, 0, none⟩) ∧ v = .pointer (some ⟨bq, 0, none⟩) ∧ wx.heap[bx]? = some (.cells #[.bool false, .int .i64 (-1), .int .i64 p] 117 (0, 0)) ∧ wx.heap[bq]? = some (.cells #[.bool true, .int .i64 (-1), .int .i64 q] 117 (0, 0)) ∧ Below Y.heap.size Y wx ∧ Y.heap.size ≤ bx ∧ Y.heap.size ≤ bq)
    case first =>
      have hkp : ∀ W, Below Y.heap.size Y W → W.cell? ⟨X.heap.size, 0, none⟩ = some (.int .i64 p) ∧ W.cell? ⟨X.heap.size, 1, none⟩ = some (.int .i64 q) := fun W hb => ⟨(hb.cell (p := ⟨X.heap.size, 0, none⟩) dl).trans d0, (hb.cell (p := ⟨X.heap.size, 1, none⟩) dl).trans d1⟩
      have HKP := Lib.hid hkp
      clear hkp d0 d1
      go_region_held3 (fun W => W.cell? ⟨X.heap.size, 0, none⟩ = some (.int .i64 p) ∧ W.cell? ⟨X.heap.size, 1, none⟩ = some (.int .i64 q))
        (exact HKP.out _ (by (repeat (first | exact Below.refl _ _ | (with_reducible refine Below.drew ?_) | (with_reducible refine Below.alloc ?_ (by (try simp); (try omega)) _) | (with_reducible refine Below.setCell ?_ (by (try simp); (try omega)) _) | (with_reducible refine Below.trans ?_ (Below.mono (by assumption) (by (try simp); (try omega))))))))
        (fail)
      all_goals
        go_wp2_with fail
        go_meet
        case rel =>
          first
          | (obtain ⟨h1, h2, h3⟩ := two_new Y (.cells #[.bool false, .int .i64 (-1), .int .i64 p] 117) (.cells #[.bool true, .int .i64 (-1), .int .i64 q] 117)
             exact ⟨Y.heap.size, Y.heap.size + 1, rfl, rfl, h1, h2, h3, Nat.le_refl _, by omega⟩)
          | (obtain ⟨h1, h2, h3⟩ := two_new Y (.cells #[.bool true, .int .i64 (-1), .int .i64 q] 117) (.cells #[.bool false, .int .i64 (-1), .int .i64 p] 117)
             exact ⟨Y.heap.size + 1, Y.heap.size, rfl, rfl, h2, h1, h3, by omega, Nat.le_refl _⟩)
    case rest =>
      obtain ⟨bx, bq, rfl, rfl, hbx, hbq, hbw, hx1, hq1⟩ := hcut
      clear d0 d1 dl
      have hYX : Below (w.heap.size + 3) X Y := HY.out.1.mono HS.out.1.lt
      have hXwc : Below (w.heap.size + 3) X wc := hYX.trans (hbw.mono (Nat.le_trans HS.out.1.lt hYX.size))
      have hgw := HS.out.1.below hXwc
      have hb2 : Below X.heap.size X wc := HY.out.1.trans (hbw.mono HY.out.1.size)
      have hpb := HY.out.2.below hbw
      have hmw : MP encS wc mt (twF (J.take k)) := HS.out.2.2.1.keep (hb2.block mt HS.out.2.2.1.lt)
      have hbtw := (hb2.block bt (heap_lt HS.out.2.1)).trans HS.out.2.1
      have hbp := heap_lt HY.out.2
      obtain ⟨⟨s1, s2, s3⟩, hs⟩ : ∃ s, (twJ (J.take k) (false, (-1, p))).getD (false, (0, 0)) = s := ⟨_, rfl⟩
      obtain ⟨⟨u1, u2, u3⟩, hu⟩ : ∃ s, (twJ (J.take k) (true, (-1, q))).getD (false, (0, 0)) = s := ⟨_, rfl⟩
      obtain ⟨h1, hh1⟩ : ∃ b, (twJ (J.take k) (false, (-1, p))).isSome = b := ⟨_, rfl⟩
      obtain ⟨h2, hh2⟩ : ∃ b, (twJ (J.take k) (true, (-1, q))).isSome = b := ⟨_, rfl⟩
      have gd : ∀ o : Option Sd, (o.map encS).getD (encS (false, (0, 0))) = encS (o.getD (false, (0, 0))) := fun o => by cases o <;> rfl
      have gs : ∀ o : Option Sd, (o.map encS).isSome = o.isSome := fun o => by cases o <;> rfl
      have lk1 := hmw.lookup kside Try.underlying115 zside (false, (-1, p)) true
      have hmw2 : MP encS (wc.alloc (.cells #[.bool s1, .int .i64 s2, .int .i64 s3] 117)) mt (twF (J.take k)) := hmw.keep (Below.heap_alloc _ _ _ hmw.lt)
      have lk2 := hmw2.lookup kside Try.underlying115 zside (true, (-1, q)) true
      unfold twF at lk1 lk2
      simp only [if_true] at lk1 lk2
      rw [gd, gs, hs, hh1] at lk1
      rw [gd, gs, hu, hh2] at lk2
      simp only [encS] at lk1 lk2
      have HW := Lib.hid (And.intro hgw (And.intro hbtw (And.intro hmw (And.intro hpb (And.intro hbx hbq)))))
      have HH := Lib.hid (And.intro hh1 hh2)
      have hbtl := heap_lt hbtw
      have hbxl := heap_lt hbx
      have hbql := heap_lt hbq
      have t0 : wc.cell? ⟨bt, 0, none⟩ = some (.map (some mt)) := by simp [World.cell?, hbtw]
      have x0 : wc.cell? ⟨bx, 0, none⟩ = some (.bool false) := by simp [World.cell?, hbx]
      have x1 : wc.cell? ⟨bx, 1, none⟩ = some (.int .i64 (-1)) := by simp [World.cell?, hbx]
      have x2 : wc.cell? ⟨bx, 2, none⟩ = some (.int .i64 p) := by simp [World.cell?, hbx]
      have y0 : wc.cell? ⟨bq, 0, none⟩ = some (.bool true) := by simp [World.cell?, hbq]
      have y1 : wc.cell? ⟨bq, 1, none⟩ = some (.int .i64 (-1)) := by simp [World.cell?, hbq]
      have y2 : wc.cell? ⟨bq, 2, none⟩ = some (.int .i64 q) := by simp [World.cell?, hbq]
      have HMl : Hid (mt < X.heap.size ∧ X.heap.size ≤ Y.heap.size) := ⟨HS.out.2.2.1.lt, HY.out.1.size⟩
      clear hYX hXwc hgw hb2 hpb hmw hmw2 hbtw hbp hs hu hh1 hh2 gd gs hbx hbq hbw
      go_upto_region 14 with fail
      have hzz : Below wc.heap.size wc ((wc.alloc (.cells #[.bool s1, .int .i64 s2, .int .i64 s3] 117)).alloc (.cells #[.bool u1, .int .i64 u2, .int .i64 u3] 117)) := by (repeat (first | exact Below.refl _ _ | (with_reducible refine Below.drew ?_) | (with_reducible refine Below.alloc ?_ (by (try simp); (try omega)) _) | (with_reducible refine Below.setCell ?_ (by (try simp); (try omega)) _) | (with_reducible refine Below.trans ?_ (Below.mono (by assumption) (by (try simp); (try omega))))))
      refine absW (fun Z => Below wc.heap.size wc Z) hzz ?_
      intro Z hz
      have hgZ := HW.out.1.below (hz.mono HW.out.1.lt)
      have hbtZ := (hz.block bt hbtl).trans HW.out.2.1
      have hmZ : MP encS Z mt (twF (J.take k)) := HW.out.2.2.1.keep (hz.block mt HW.out.2.2.1.lt)
      obtain ⟨d0, d1, dl⟩ := (HW.out.2.2.2.1.below hz).cells
      have hbxZ := (hz.block bx hbxl).trans HW.out.2.2.2.2.1
      have hbqZ := (hz.block bq hbql).trans HW.out.2.2.2.2.2
      clear hzz hz lk1 lk2 t0 x0 x1 x2 y0 y1 y2 hbtl hbxl hbql
      dsimp only at d0 d1
      have a1 := hgZ.a.c1
      have a2 := hgZ.a.lt
      have b1 := hgZ.b.c1
      have b2 := hgZ.b.lt
      have HZ := Lib.hid (And.intro hgZ (And.intro hbtZ (And.intro hmZ (And.intro hbxZ hbqZ))))
      clear hbtZ hmZ hbxZ hbqZ
      have hno : ¬ ((0 ≤ p ∧ p < fA ∧ 0 ≤ q ∧ q < fB) ∧ h1 = false ∧ h2 = false) → ¬ JOk fA fB J := fun h hj => by
        obtain ⟨hA, hB, hC⟩ := HSn.out.1 (jOkTake hj (k + 1))
        exact h ⟨hA, by rw [← HH.out.1, hB]; rfl, by rw [← HH.out.2, hC]; rfl⟩
      have HNo := Lib.hid hno
      clear hno
      by_cases g1 : p < 0
      · have HB := Lib.hid (hbad.out (HNo.out (by simp <;> omega)))
        obtain ⟨⟨z0, z1, z2⟩, y0, y1, y2⟩ := hgZ.zero
        have hlR : w.heap.size + 2 < Z.heap.size := by have := hgZ.lt; omega
        clear hgZ
        go_wp2_with fail
        exact HB.out _ _ ⟨rfl, rfl, rfl, rfl, trivial⟩ HZ.out.1.again
      · by_cases g2 : (fA : Int) ≤ p
        · have HB := Lib.hid (hbad.out (HNo.out (by simp <;> omega)))
          obtain ⟨⟨z0, z1, z2⟩, y0, y1, y2⟩ := hgZ.zero
          have hlR : w.heap.size + 2 < Z.heap.size := by have := hgZ.lt; omega
          clear hgZ
          go_wp2_with fail
          exact HB.out _ _ ⟨rfl, rfl, rfl, rfl, trivial⟩ HZ.out.1.again
        · by_cases g3 : q < 0
          · have HB := Lib.hid (hbad.out (HNo.out (by simp <;> omega)))
            obtain ⟨⟨z0, z1, z2⟩, y0, y1, y2⟩ := hgZ.zero
            have hlR : w.heap.size + 2 < Z.heap.size := by have := hgZ.lt; omega
            clear hgZ
            go_wp2_with fail
            exact HB.out _ _ ⟨rfl, rfl, rfl, rfl, trivial⟩ HZ.out.1.again
          · by_cases g4 : (fB : Int) ≤ q
            · have HB := Lib.hid (hbad.out (HNo.out (by simp <;> omega)))
              obtain ⟨⟨z0, z1, z2⟩, y0, y1, y2⟩ := hgZ.zero
              have hlR : w.heap.size + 2 < Z.heap.size := by have := hgZ.lt; omega
              clear hgZ
              go_wp2_with fail
              exact HB.out _ _ ⟨rfl, rfl, rfl, rfl, trivial⟩ HZ.out.1.again
            · cases h1
              · cases h2
                · go_upto_region 16 with fail
                  have hbl := hgZ.bel
                  have hkp : ∀ W, Kp [mt] Z W → W.cell? ⟨bt, 0, none⟩ = some (.map (some mt)) ∧ W.cell? ⟨bx, 0, none⟩ = some (.bool false) ∧ W.cell? ⟨bx, 1, none⟩ = some (.int .i64 (-1)) ∧ W.cell? ⟨bx, 2, none⟩ = some (.int .i64 p) ∧ W.cell? ⟨bq, 0, none⟩ = some (.bool true) ∧ W.cell? ⟨bq, 1, none⟩ = some (.int .i64 (-1)) ∧ W.cell? ⟨bq, 2, none⟩ = some (.int .i64 q) := fun W hk => by
                    obtain ⟨_, j1, j2, j3, j4⟩ := HZ.out
                    have f1 := (hk.block bt (heap_lt j1) (by simpa using hne)).trans j1
                    have f2 := (hk.block bx (heap_lt j3) (by have := HMl.out; simp; omega)).trans j3
                    have f3 := (hk.block bq (heap_lt j4) (by have := HMl.out; simp; omega)).trans j4
                    refine ⟨?_, ?_, ?_, ?_, ?_, ?_, ?_⟩ <;> simp [World.cell?, f1, f2, f3]
                  have S0 := hkp Z (Kp.refl _ _)
                  have HKP := Lib.hid hkp
                  have HM := Lib.hid HZ.out.2.2.1
                  clear hkp hgZ a1 a2 b1 b2 hbl d0 d1 dl
                  go_region_held3 (fun W => W.cell? ⟨bt, 0, none⟩ = some (.map (some mt)) ∧ W.cell? ⟨bx, 0, none⟩ = some (.bool false) ∧ W.cell? ⟨bx, 1, none⟩ = some (.int .i64 (-1)) ∧ W.cell? ⟨bx, 2, none⟩ = some (.int .i64 p) ∧ W.cell? ⟨bq, 0, none⟩ = some (.bool true) ∧ W.cell? ⟨bq, 1, none⟩ = some (.int .i64 (-1)) ∧ W.cell? ⟨bq, 2, none⟩ = some (.int .i64 q))
                    (first | exact S9 | exact S8 | exact S0)
                    (first
                      | (refine up_map_update (k := (false, (-1, p))) (v := encS (true, (-1, q))) HM.out.drew kside Try.underlying115 ?_; intro w8 mp8 k8 z8
                         have S8 := HKP.out _ ((Kp.refl _ Z).drew.trans k8 (by simp)))
                      | (refine up_map_update (k := (true, (-1, q))) (v := encS (false, (-1, p))) mp8 kside Try.underlying115 ?_; intro w9 mp9 k9 z9
                         have S9 := HKP.out _ (((Kp.refl _ Z).drew.trans k8 (by simp)).trans k9 (by simp))))
                  have K9 : Kp [mt] Z w9 := ((Kp.refl _ Z).drew.trans k8 (by simp)).trans k9 (by simp)
                  have h0 : twJ (J.take k) (false, (-1, p)) = none := by simpa using HH.out.1
                  have h0' : twJ (J.take k) (true, (-1, q)) = none := by simpa using HH.out.2
                  have hj1 : JOk fA fB (J.take (k + 1)) := HSn.out.2 ⟨⟨by omega, by omega, by omega, by omega⟩, h0, h0'⟩
                  have hm9 : MP encS w9 mt (twF (J.take (k + 1))) := by rw [HTk.out, twF_snoc (j := (p, q)) h0 h0']; exact mp9
                  have hg9 := HZ.out.1.below (K9.below HZ.out.1.lt (by simpa using l2))
                  have hbt9 := (K9.block bt (heap_lt HZ.out.2.1) (by simpa using hne)).trans HZ.out.2.1
                  have HR := Lib.hid (And.intro hg9 (And.intro hbt9 (And.intro hm9 hj1)))
                  have HGo := Lib.hid (fun a' X' => hgo.out a' X' hlt)
                  have ek : IntKind.i64.wrap ((k : Int) + 1) = (k : Int) + 1 := IntWalk.i64_in _ (by omega)
                  clear S8 S9 k8 k9 z8 z9 mp8 mp9 K9 h0 h0' hj1 hm9 hg9 hbt9
                  go_wp2_with fail
                  exact HGo.out _ _ ⟨⟨rfl, rfl, rfl, rfl, rfl, rfl, rfl, rfl, rfl, rfl, rfl, trivial⟩, HR.out.1, HR.out.2.1, HR.out.2.2.1, HR.out.2.2.2, l1, l2, hne⟩
                · have HB := Lib.hid (hbad.out (HNo.out (by simp <;> omega)))
                  obtain ⟨⟨z0, z1, z2⟩, y0, y1, y2⟩ := hgZ.zero
                  have hlR : w.heap.size + 2 < Z.heap.size := by have := hgZ.lt; omega
                  clear hgZ
                  go_wp2_with fail
                  exact HB.out _ _ ⟨rfl, rfl, rfl, rfl, trivial⟩ HZ.out.1.again
              · have HB := Lib.hid (hbad.out (HNo.out (by simp <;> omega)))
                obtain ⟨⟨z0, z1, z2⟩, y0, y1, y2⟩ := hgZ.zero
                have hlR : w.heap.size + 2 < Z.heap.size := by have := hgZ.lt; omega
                clear hgZ
                go_wp2_with fail
                exact HB.out _ _ ⟨rfl, rfl, rfl, rfl, trivial⟩ HZ.out.1.again
  · have hkl : k = J.length := by omega
    have HO := Lib.hid (fun a' X' => hout.out a' X' hkl)
    repeat (first
        | exact HO.out _ _ ⟨⟨rfl, rfl, rfl, rfl, rfl, rfl, rfl, rfl, rfl, rfl, rfl, trivial⟩, HS.out.1, HS.out.2.1, HS.out.2.2.1, HS.out.2.2.2, l1, l2, hne⟩
        | go_values | go_skip | go_guarded | go_step | go_upon | go_back)
end
end Go.Proofs.Ytcebejcdfdahjaa
