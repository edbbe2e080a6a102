/-
  net.Plug: over the ports that are left, in whatever order: a round.
-/
import Derived.Test.YtcebejcdfdahjaaPlugTo
import Derived.Test.YtcebejcdfdahjaaPlugJ
import Derived.WalkMore
/-
  Plain: what net.Plug's last map holds while the ports that are left are gone over, in whatever order.
-/
namespace Go.Proofs.Ytcebejcdfdahjaa
open Go.RowKit
set_option linter.unusedVariables false

section
variable (pn : Int → Nat) (csA csB : List Int) (fA fB : Nat) (WA WB : List (Pt × Pt)) (J : List (Int × Int))
def toF (x : Sd) : Option Value := if x ∈ leftS pn csA csB fA fB J then some (encPt (toS csA.length fA fB J x)) else none
def mL (lf : Sd → Bool) (p : Pt) : Option Pt := ((leftS pn csA csB fA fB J).find? fun x => decide (toS csA.length fA fB J x = p) && !lf x).map fun x => toS csA.length fA fB J (endS WA WB J x)
variable {pn csA csB fA fB WA WB J}
theorem mL_start {lf : Sd → Bool} (h : ∀ x ∈ leftS pn csA csB fA fB J, lf x = true) : mL pn csA csB fA fB WA WB J lf = fun _ => none := by
  funext p
  unfold mL
  rw [List.find?_eq_none.2 (fun x hx => by rw [h x hx]; simp)]
  rfl
theorem mL_end {lf : Sd → Bool} (h : ∀ x, lf x = false) : mL pn csA csB fA fB WA WB J lf = mP pn csA csB fA fB WA WB J := by
  funext p
  unfold mL mP
  congr 2
  funext x
  rw [h x]
  simp
theorem find_congr {α : Type} {l : List α} {f g : α → Bool} (h : ∀ x ∈ l, f x = g x) : l.find? f = l.find? g := by
  induction l with
  | nil => rfl
  | cons a r ih =>
    rw [List.find?_cons, List.find?_cons, h a (by simp), ih fun x hx => h x (by simp [hx])]
theorem mL_step {lf : Sd → Bool} {x : Sd} (hx : x ∈ leftS pn csA csB fA fB J) :
    (fun p => (mL pn csA csB fA fB WA WB J (fun b => if b = x then false else lf b) p).map encPt) = upd (fun p => (mL pn csA csB fA fB WA WB J lf p).map encPt) (toS csA.length fA fB J x) (encPt (toS csA.length fA fB J (endS WA WB J x))) := by
  funext p
  unfold upd mL
  by_cases e : p = toS csA.length fA fB J x
  · subst e
    rw [if_pos rfl, find_self hx (by simp) fun y hy h => toS_inj hy hx (by simp at h; exact h.1)]
    rfl
  · rw [if_neg e]
    congr 2
    refine find_congr fun y hy => ?_
    by_cases e2 : toS csA.length fA fB J y = p
    · have hne : y ≠ x := fun e3 => e (by rw [← e2, e3])
      show (decide (toS csA.length fA fB J y = p) && !(if y = x then false else lf y)) = _
      rw [if_neg hne]
    · rw [decide_eq_false e2, Bool.false_and, Bool.false_and]
theorem toF_some {x : Sd} {v : Value} (h : toF pn csA csB fA fB J x = some v) : x ∈ leftS pn csA csB fA fB J ∧ v = encPt (toS csA.length fA fB J x) := by
  unfold toF at h
  split at h
  · rename_i hx
    exact ⟨hx, (Option.some.inj h).symm⟩
  · cases h
theorem toF_at {x : Sd} (h : x ∈ leftS pn csA csB fA fB J) : toF pn csA csB fA fB J x = some (encPt (toS csA.length fA fB J x)) := by unfold toF; rw [if_pos h]
end
end Go.Proofs.Ytcebejcdfdahjaa
namespace Go.Proofs.Ytcebejcdfdahjaa
open Go.RowKit
attribute [local go_sem] cell_set
set_option maxRecDepth 100000
set_option linter.unusedVariables false

section
variable (Q : Exit → Act → World → Prop) (pn : Int → Nat) (csA csB : List Int) (fA fB : Nat) (WA WB : List (Pt × Pt)) (J : List (Int × Int)) (v0 v5 v6 v8 v21 : Value)
/-- The state at a round: lf: which are still to come. X0: the world at the loop's beginning. -/
structure R39 (ds : List Deferred) (X0 : World) (bt mt bto mto p q m1 m2 m0 R : Nat) (lf : Sd → Bool) (n : Nat) (a : Act) (X : World) : Prop where
  f : FrN 234 ds [(0, v0), (5, v5), (6, v6), (8, v8), (12, .pointer (some ⟨bt, 0, none⟩)), (21, v21), (22, .pointer (some ⟨bto, 0, none⟩)), (34, .func (.func 75) #[] #[.pointer (some ⟨q, 0, none⟩), .pointer (some ⟨p, 0, none⟩)]), (35, .map (some m0)), (198, .pointer (some ⟨R, 0, none⟩))] a
  k : Kp [m0, R] X0 X
  mi : MI encS X R mto (toF pn csA csB fA fB J) lf n
  m : MP encPt X m0 fun p => (mL pn csA csB fA fB WA WB J lf p).map encPt
/-- What stands in the world at the loop's beginning. -/
structure S39 (X0 : World) (bt mt bto mto p q m1 m2 m0 R : Nat) : Prop where
  t : X0.cell? ⟨bt, 0, none⟩ = some (.map (some mt))
  tl : bt < m0
  tm : MP encS X0 mt (twF J)
  tml : mt < m0
  o : X0.cell? ⟨bto, 0, none⟩ = some (.map (some mto))
  ol : bto < m0
  oml : mto < m0
  l : LB2 WA WB p q m1 m2 X0
  ll : p < m0 ∧ q < m0 ∧ m1 < m0 ∧ m2 < m0
  r : m0 < R
  rl : R < X0.heap.size
theorem S39.at_ {X0 Z : World} {bt mt bto mto p q m1 m2 m0 R : Nat} (h : S39 WA WB J X0 bt mt bto mto p q m1 m2 m0 R) (hk : Kp [m0, R] X0 Z) :
    Z.cell? ⟨bt, 0, none⟩ = some (.map (some mt)) ∧ MP encS Z mt (twF J) ∧ Z.cell? ⟨bto, 0, none⟩ = some (.map (some mto)) ∧ LB2 WA WB p q m1 m2 Z := by
  obtain ⟨a1, a2, a3, a4, a5, a6, a7, l, ⟨b1, b2, b3, b4⟩, r, rl⟩ := h
  have hb : ∀ k, k < m0 → Z.heap[k]? = X0.heap[k]? := fun k hk2 => hk.block k (by omega) (by simp; omega)
  have hc : ∀ k i, k < m0 → Z.cell? ⟨k, i, none⟩ = X0.cell? ⟨k, i, none⟩ := fun k i hk2 => World.cell?_of_block (hb k hk2)
  have hs := hk.size
  exact ⟨(hc bt 0 a2).trans a1, a3.keep (hb mt a4), (hc bto 0 a6).trans a5, ⟨(hc p 0 b1).trans l.fp, by have := l.fpl; omega, (hc q 0 b2).trans l.fq, by have := l.fql; omega, l.a.keep (hb m1 b3), l.b.keep (hb m2 b4)⟩⟩
set_option maxHeartbeats 4000000 in
theorem gr_39 (ds : List Deferred) (X0 : World) (bt mt bto mto p q m1 m2 m0 R : Nat) (lf : Sd → Bool) (n : Nat) (a : Act) (X : World)
    (HS : Hid (S39 WA WB J X0 bt mt bto mto p q m1 m2 m0 R)) (okA : Hid (NetOk pn csA fA WA)) (okB : Hid (NetOk pn csB fB WB)) (hJ : Hid (JOk fA fB J))
    (hgo : Hid (∀ a' X' lf' n', n' < n → R39 pn csA csB fA fB WA WB J v0 v5 v6 v8 v21 ds X0 bt mt bto mto p q m1 m2 m0 R lf' n' a' X' → Q .normal a' X'))
    (hout : Hid (∀ a' X', (∀ x, lf x = false) → R39 pn csA csB fA fB WA WB J v0 v5 v6 v8 v21 ds X0 bt mt bto mto p q m1 m2 m0 R lf n a' X' → Q (.exit 6) a' X'))
    (hR : R39 pn csA csB fA fB WA WB J v0 v5 v6 v8 v21 ds X0 bt mt bto mto p q m1 m2 m0 R lf n a X) : (gpT 41).wp Try.prog Q a X := by
  obtain ⟨ha, hk, hmi, hm⟩ := hR
  obtain ⟨U, rfl, e0, e5, e6, e8, e12, e21, e22, e34, e35, e198, -⟩ := ha.open
  have HM := Lib.hid (And.intro hk (And.intro hmi hm))
  have hnx := hmi.next (P := Try.prog) (ty := 0) (by have := HS.out.r; have := HS.out.oml; omega)
  clear hk hmi hm ha
  unfold FrGL
  simp only [e0, e5, e6, e8, e12, e21, e22, e34, e35, e198]
  clear e0 e5 e6 e8 e12 e21 e22 e34 e35 e198
  show (Code.seq _ _).wp _ _ _ _
  rcases hnx with ⟨hr, hl0⟩ | ⟨x, v, w1, n1, hlx, hfx, hr, hmi1, hn1, hen, hk1, hz1⟩
  · have HO := Lib.hid (fun a' X' => hout.out a' X' hl0)
    repeat (first
      | exact HO.out _ _ ⟨⟨rfl, rfl, rfl, rfl, rfl, rfl, rfl, rfl, rfl, rfl, rfl, rfl, trivial⟩, HM.out.1, HM.out.2.1, HM.out.2.2⟩
      | go_values | go_skip | go_guarded | go_step | go_upon | go_back)
  · obtain ⟨hx, rfl⟩ := toF_some hfx
    have HX := Lib.hid (And.intro hx (And.intro hlx (And.intro hmi1 (And.intro hn1 hk1))))
    obtain ⟨⟨x0, x1, x2⟩, hxe⟩ : ∃ y, x = y := ⟨_, rfl⟩
    obtain ⟨⟨y0, y1⟩, hye⟩ : ∃ y, toS csA.length fA fB J x = y := ⟨_, rfl⟩
    rw [hye] at hr hen
    simp only [hxe, encS, encPt] at hr hen
    have HE := Lib.hid (And.intro hxe hye)
    have HZ1 := Lib.hid hz1
    clear hxe hye hx hlx hmi1 hn1 hk1 hfx hz1
    go_upto_region 43 with fail
    refine absW (fun Y => Below w1.heap.size w1 Y ∧ Y.heap[w1.heap.size]? = some (.cells #[.bool x0, .int .i64 x1, .int .i64 x2] 117 (0, 0)) ∧ Y.heap[w1.heap.size + 1]? = some (.cells #[.int .i64 y0, .int .i64 y1] 78 (0, 0))) ?_ ?_
    · refine ⟨((Below.refl _ _).alloc (Nat.le_refl _) _).alloc (by simp) _, (Below.heap_alloc _ _ _ (by simp)).trans (heap_alloc_new w1 _), ?_⟩
      have := heap_alloc_new (w1.alloc (.cells #[.bool x0, .int .i64 x1, .int .i64 x2] 117)) (.cells #[.int .i64 y0, .int .i64 y1] 78)
      rwa [World.size_alloc] at this
    rintro Y ⟨hY1, hY2, hY3⟩
    have kw1 : Kp [m0, R] X0 w1 := HM.out.1.trans (HX.out.2.2.2.2.mono (G := [m0, R]) (by simp)) (fun b hb => .inl hb)
    have kY : Kp [m0, R] X0 Y := kw1.thenBelow hY1
    obtain ⟨_, _, _, hlb⟩ := S39.at_ WA WB J HS.out kY
    have c0 : Y.cell? ⟨w1.heap.size, 0, none⟩ = some (.bool x0) := by simp [World.cell?, hY2]
    have c1 : Y.cell? ⟨w1.heap.size, 1, none⟩ = some (.int .i64 x1) := by simp [World.cell?, hY2]
    have c2 : Y.cell? ⟨w1.heap.size, 2, none⟩ = some (.int .i64 x2) := by simp [World.cell?, hY2]
    have hcl := heap_lt hY2
    have HY := Lib.hid (And.intro kw1 (And.intro hY1 (And.intro hY3 hlb)))
    clear kw1 kY hlb hY1 hY2 hY3 hr hen
    obtain ⟨⟨s0, s1, s2⟩, hs⟩ : ∃ y, nxS WA WB (x0, (x1, x2)) = y := ⟨_, rfl⟩
    have Hs := Lib.hid hs
    clear hs
    go_step3
    go_wp2_with (go_at_call 75; refine (plug_next (x0, (x1, x2)) p q m1 m2 _ HY.out.2.2.2 okA.out.nodup okB.out.nodup).mono ?_; rintro e w3 ⟨rfl, hb3⟩; rw [Hs.out]; dsimp only [encS]
                 have HB3 := Lib.hid hb3
                 clear hb3)
    have hz3 := HB3.out.size
    refine absW (fun Z => Below w3.heap.size w3 Z ∧ Z.heap[w3.heap.size]? = some (.cells #[.bool s0, .int .i64 s1, .int .i64 s2] 117 (0, 0))) ⟨(Below.refl _ _).alloc (Nat.le_refl _) _, heap_alloc_new w3 _⟩ ?_
    rintro Z ⟨hZ1, hZ2⟩
    obtain ⟨b, hbe⟩ : ∃ b, w3.heap.size = b := ⟨_, rfl⟩
    have hX0z := HY.out.1.size
    have hYz := HY.out.2.1.size
    have hbX0 : X0.heap.size ≤ b := by omega
    have kZ : Kp [m0, R] X0 Z := ((HY.out.1.thenBelow HY.out.2.1).thenBelow HB3.out).thenBelow hZ1
    have hpZ : Z.heap[w1.heap.size + 1]? = some (.cells #[.int .i64 y0, .int .i64 y1] 78 (0, 0)) := by
      have h := heap_lt HY.out.2.2.1
      exact ((hZ1.block _ (by omega)).trans (HB3.out.block _ h)).trans HY.out.2.2.1
    have hne : w1.heap.size + 1 ≠ b := by have h := heap_lt HY.out.2.2.1; omega
    have hw1R : R < w1.heap.size := HX.out.2.2.1.lt
    have hmiZ : MI encS Z R mto (toF pn csA csB fA fB J) (fun b => if b = x then false else lf b) n1 := HX.out.2.2.1.keep (by
      have := HX.out.2.2.1.mp.lt
      exact ((hZ1.block _ (by omega)).trans (HB3.out.block _ (by omega))).trans (HY.out.2.1.block _ this)) (by
      exact ((hZ1.block _ (by omega)).trans (HB3.out.block _ (by omega))).trans (HY.out.2.1.block _ hw1R))
    have hmZ : MP encPt Z m0 fun p => (mL pn csA csB fA fB WA WB J lf p).map encPt := by
      have h0 := HM.out.2.2.lt
      have hr := HS.out.r
      have e1 : w1.heap[m0]? = X.heap[m0]? := HX.out.2.2.2.2.block m0 h0 (by simp; omega)
      exact HM.out.2.2.keep ((((hZ1.block _ (by have := HZ1.out; omega)).trans (HB3.out.block _ (by have := HZ1.out; omega))).trans (HY.out.2.1.block _ (by have := HZ1.out; omega))).trans e1)
    rw [hbe] at hZ2 ⊢
    have hxv := (leftS_mem.1 HX.out.1).1
    have h0t : twJ J x = none := by
      by_cases h : x.2.1 < 0
      · exact (leftS_mem.1 HX.out.1).2 h
      · exact tw_cell h hJ.out
    have hes := endS_is okA.out okB.out hJ.out hxv h0t
    have hel := end_left okA.out okB.out hJ.out HX.out.1
    have hw := way_nets okA.out okB.out hJ.out
    have hnv := hw.nv _ hxv
    rw [HE.out.1, Hs.out] at hnv
    have hch : chain (twJ J) (nxS WA WB) (2 * J.length + 1) (s0, (s1, s2)) = some (endS WA WB J x) := by
      have := hes.1
      rw [HE.out.1, Hs.out] at this
      rw [HE.out.1]; exact this
    have HZ := Lib.hid (And.intro kZ (And.intro hpZ (And.intro hmiZ (And.intro hmZ (And.intro hel hw)))))
    have HL0 : Hid (isSd pn csA csB fA fB (s0, (s1, s2)) ∧ chain (twJ J) (nxS WA WB) (2 * J.length + 1) (s0, (s1, s2)) = some (endS WA WB J x) ∧ Kp [b] Z Z ∧ Z.heap[b]? = some (.cells #[.bool s0, .int .i64 s1, .int .i64 s2] 117 (0, 0))) := ⟨hnv, hch, Kp.refl _ _, hZ2⟩
    have HN := Lib.hid (And.intro hne (And.intro hbX0 hw1R))
    clear hz3 hZ1 hZ2 hbe hX0z hYz hbX0 kZ hpZ hne hw1R hmiZ hmZ hxv h0t hes hel hw hnv hch c0 c1 c2 hcl HB3 HY
    go_step3
    go_wp2_with fail
    go_loopg [40] (2 * J.length + 1) (fun n u wr => ∃ y : Sd, Hid (isSd pn csA csB fA fB y ∧ chain (twJ J) (nxS WA WB) n y = some (endS WA WB J x) ∧ Kp [b] Z wr ∧ wr.heap[b]? = some (.cells #[.bool y.1, .int .i64 y.2.1, .int .i64 y.2.2] 117 (0, 0))))
    case atStart => exact ⟨(s0, (s1, s2)), HL0⟩
    case round =>
      obtain ⟨y, HR⟩ := hrel
      obtain ⟨hyv, hyc, hkb, hyb⟩ := HR.out
      have kR : Kp [m0, R] X0 wr := HZ.out.1.trans hkb (fun d hd => .inr (by simp at hd; have := HN.out.2.1; omega))
      obtain ⟨t0, htm, o0, hlb⟩ := S39.at_ WA WB J HS.out kR
      obtain ⟨ya, yb, yc⟩ := y
      dsimp only at hyb
      have d0 : wr.cell? ⟨b, 0, none⟩ = some (.bool ya) := by simp [World.cell?, hyb]
      have d1 : wr.cell? ⟨b, 1, none⟩ = some (.int .i64 yb) := by simp [World.cell?, hyb]
      have d2 : wr.cell? ⟨b, 2, none⟩ = some (.int .i64 yc) := by simp [World.cell?, hyb]
      have hbl := heap_lt hyb
      have lk1 := htm.lookup kside Try.underlying115 zside (ya, (yb, yc)) true
      unfold twF at lk1
      simp only [if_true] at lk1
      have btl : bt < wr.heap.size := by have := HS.out.tl; have := HS.out.r; have := HS.out.rl; have := kR.size; omega
      have btol : bto < wr.heap.size := by have := HS.out.ol; have := HS.out.r; have := HS.out.rl; have := kR.size; omega
      have HRR := Lib.hid (And.intro kR (And.intro htm (And.intro hlb (And.intro hkb hyb))))
      cases ht : twJ J (ya, (yb, yc)) with
      | none =>
        rw [ht] at lk1
        simp only [Option.map_none, Option.getD_none, Option.isSome_none, encS] at lk1
        have hye : (ya, (yb, yc)) = endS WA WB J x := by
          cases gk with
          | zero => exact absurd hyc (by simp [chain])
          | succ gk => rw [chain, ht] at hyc; exact Option.some.inj hyc
        have HYe := Lib.hid hye
        clear hye ht hyv hyc hkb hyb kR htm hlb
        go_wp2_with fail
        refine absW (fun V => Below wr.heap.size wr V) ((Below.refl wr.heap.size wr).alloc (Nat.le_refl _) _) ?_
        intro V hV
        obtain ⟨⟨t0', t1'⟩, hte⟩ : ∃ r, toS csA.length fA fB J (endS WA WB J x) = r := ⟨_, rfl⟩
        have kV : Kp [b] Z V := HRR.out.2.2.2.1.thenBelow hV
        have kX : Kp [m0, R] X0 V := HRR.out.1.thenBelow hV
        have hbV : V.heap[b]? = some (.cells #[.bool ya, .int .i64 yb, .int .i64 yc] 117 (0, 0)) := (hV.block b (heap_lt HRR.out.2.2.2.2)).trans HRR.out.2.2.2.2
        have hpV : V.heap[w1.heap.size + 1]? = some (.cells #[.int .i64 y0, .int .i64 y1] 78 (0, 0)) := (kV.block _ (heap_lt HZ.out.2.1) (by simpa using HN.out.1)).trans HZ.out.2.1
        have hRl := HZ.out.2.2.1.lt
        have hRX : R < X0.heap.size := HS.out.rl
        have hmiV : MI encS V R mto (toF pn csA csB fA fB J) (fun b => if b = x then false else lf b) n1 := HZ.out.2.2.1.keep (kV.block _ HZ.out.2.2.1.mp.lt (by have := HS.out.oml; have := HS.out.r; have := HN.out.2.1; simp; omega)) (kV.block _ hRl (by have := HN.out.2.1; simp; omega))
        have hmV : MP encPt V m0 fun p => (mL pn csA csB fA fB WA WB J lf p).map encPt := HZ.out.2.2.2.1.keep (kV.block _ HZ.out.2.2.2.1.lt (by have := HS.out.r; have := HN.out.2.1; simp; omega))
        obtain ⟨_, _, o0', _⟩ := S39.at_ WA WB J HS.out kX
        have e0 : V.cell? ⟨b, 0, none⟩ = some (.bool ya) := by simp [World.cell?, hbV]
        have e1 : V.cell? ⟨b, 1, none⟩ = some (.int .i64 yb) := by simp [World.cell?, hbV]
        have e2 : V.cell? ⟨b, 2, none⟩ = some (.int .i64 yc) := by simp [World.cell?, hbV]
        have g0 : V.cell? ⟨w1.heap.size + 1, 0, none⟩ = some (.int .i64 y0) := by simp [World.cell?, hpV]
        have g1 : V.cell? ⟨w1.heap.size + 1, 1, none⟩ = some (.int .i64 y1) := by simp [World.cell?, hpV]
        have lk2 := hmiV.mp.drew.lookup kside Try.underlying119 zport (ya, (yb, yc)) false
        have htf : toF pn csA csB fA fB J (ya, (yb, yc)) = some (encPt (t0', t1')) := by rw [HYe.out, toF_at HZ.out.2.2.2.2.1, hte]
        rw [htf] at lk2
        clear htf
        simp only [Bool.false_eq_true, if_false, Option.getD_some, encS, encPt] at lk2
        obtain ⟨w9, hr9, mp9, k9, z9⟩ := hmV.drew.update kport Try.underlying102 (y0, y1) (encPt (t0', t1'))
        simp only [encPt] at hr9
        have HF := Lib.hid (And.intro hte (And.intro kX (And.intro hmiV (And.intro mp9 k9))))
        have HGo := Lib.hid (fun a' X' => hgo.out a' X' (fun b => if b = x then false else lf b) n1 HX.out.2.2.2.1)
        clear hte kV kX hbV hpV hRl hRX hmiV hmV mp9 k9 z9 hV d0 d1 d2 t0 o0 lk1 btl btol hbl
        (refine region_tail 5 (by kernel_rfl) (by kernel_rfl) ?_; simp only [List.take_succ_cons, List.take_zero, List.drop_succ_cons, List.drop_zero]; repeat still_step; try refine wpStill_nil ?_)
        go_wp2_with fail
        have k8 : Kp [m0] V w9 := ((Kp.refl [m0] V).drew.trans HF.out.2.2.2.2 (fun d hd => .inl hd))
        have hR9 : R ≠ m0 := by have := HS.out.r; omega
        have hm9 : mto ≠ m0 := by have := HS.out.oml; omega
        refine HGo.out _ _ ⟨⟨rfl, rfl, rfl, rfl, rfl, rfl, rfl, rfl, rfl, rfl, rfl, rfl, trivial⟩, HF.out.2.1.trans (k8.mono (G := [m0, R]) (by simp)) (fun d hd => .inl hd), HF.out.2.2.1.keep (k8.block _ HF.out.2.2.1.mp.lt (by simpa using hm9)) (k8.block _ HF.out.2.2.1.lt (by simpa using hR9)), ?_⟩
        rw [mL_step HX.out.1, HE.out.2, HF.out.1]
        exact HF.out.2.2.2.1
      | some z =>
        rw [ht] at lk1
        obtain ⟨za, zb, zc⟩ := z
        simp only [Option.map_some, Option.getD_some, Option.isSome_some, encS] at lk1
        have hzv := HZ.out.2.2.2.2.2.tv _ _ ht
        have hnv := HZ.out.2.2.2.2.2.nv _ hzv
        have hch : ∃ g, gk = g + 1 ∧ chain (twJ J) (nxS WA WB) g (nxS WA WB (za, (zb, zc))) = some (endS WA WB J x) := by
          cases gk with
          | zero => exact absurd hyc (by simp [chain])
          | succ g => rw [chain, ht] at hyc; exact ⟨g, rfl, hyc⟩
        obtain ⟨g, rfl, hch⟩ := hch
        obtain ⟨⟨r0, r1, r2⟩, hr⟩ : ∃ r, nxS WA WB (za, (zb, zc)) = r := ⟨_, rfl⟩
        rw [hr] at hnv hch
        have Hr := Lib.hid hr
        have HNv := Lib.hid (And.intro hnv hch)
        have HLB := Lib.hid (hlb.keep ((Below.refl wr.heap.size wr).alloc (Nat.le_refl _) (.cells #[.bool za, .int .i64 zb, .int .i64 zc] 117)))
        clear hzv hnv hch hr ht hyv hyc hkb hyb kR htm hlb
        go_wp2_with (go_at_call 75; refine (plug_next (za, (zb, zc)) p q m1 m2 _ HLB.out okA.out.nodup okB.out.nodup).mono ?_; rintro e w5 ⟨rfl, hb5⟩; rw [Hr.out]; dsimp only [encS]
                     have hb5' : w5.heap[b]? = some (.cells #[.bool ya, .int .i64 yb, .int .i64 yc] 117 (0, 0)) := ((hb5.block b (by simp; omega)).trans (Below.heap_alloc _ _ _ hbl)).trans HRR.out.2.2.2.2
                     have f0 : w5.cell? ⟨b, 0, none⟩ = some (.bool ya) := by simp [World.cell?, hb5']
                     have f1 : w5.cell? ⟨b, 1, none⟩ = some (.int .i64 yb) := by simp [World.cell?, hb5']
                     have f2 : w5.cell? ⟨b, 2, none⟩ = some (.int .i64 yc) := by simp [World.cell?, hb5']
                     have f3 : w5.frozen? ⟨b, 0, none⟩ = false := by simp [World.frozen?, hb5']
                     have f4 : w5.frozen? ⟨b, 1, none⟩ = false := by simp [World.frozen?, hb5']
                     have f5 : w5.frozen? ⟨b, 2, none⟩ = false := by simp [World.frozen?, hb5']
                     have HB5 := Lib.hid (And.intro hb5 hb5')
                     clear hb5 hb5')
        go_roundg g
        case measure => omega
        case rel =>
          refine ⟨(r0, (r1, r2)), Lib.hid ⟨HNv.out.1, HNv.out.2, ?_, ?_⟩⟩
          · exact ((((HRR.out.2.2.2.1.alloc _).thenBelow HB5.out.1).setCell (p := ⟨b, 0, none⟩) (.inl (by simp)) _).setCell (p := ⟨b, 1, none⟩) (.inl (by simp)) _).setCell (p := ⟨b, 2, none⟩) (.inl (by simp)) _
          · simp [World.setCell, Array.getElem?_modify, HB5.out.2]
end
end Go.Proofs.Ytcebejcdfdahjaa
