/-
  The document's audit.
-/
import Derived.Test.YthbobooiedcofaaRAudA
import Derived.Test.YthbobooiedcofaaAudC
import Derived.Test.YthbobooiedcofaaRWirPut
namespace Go.Proofs.Ythbobooiedcofaa
open Go.RowKit
attribute [local go_sem] cell_set
attribute [local go_sem high] run_eql_port
set_option maxRecDepth 100000
set_option linter.unusedVariables false

def rrep (c f x o : Int) : Obj := .cells #[.int .i64 c, .int .i64 f, .int .i64 x, .int .i64 o, .int .i64 0, .int .i64 0] 156
/-- What lies while the ports are gone through. -/
structure RAuB (w : World) (B A : Nat) (S : Wir) (FA : List Nat) (br : Nat) (V : Option Addr) (l : List Pt) (X : World) : Prop where
  b : Below w.heap.size w X
  g : RG X B A S FA
  z : X.heap[w.heap.size]? = some (rrep 0 0 0 0)
  p : PtR X V l
  n : w.heap.size < br ∧ ∀ x off, V = some ⟨x, off, none⟩ → x ≠ br
  lb : ∀ b ∈ B :: FA, b < w.heap.size
/-- Ahead of round k. -/
structure RAuK (S : Wir) (X : World) (br : Nat) (c f : Int) (l : List Pt) (wr : World) : Prop where
  k : Kp [br] X wr
  r : wr.heap[br]? = some (rrep c f (S.nWire l) (S.nOpen l))
  n : S.firstBad l = none
theorem RAuK.open1 {S : Wir} {X wr w4 : World} {br : Nat} {c f : Int} {l : List Pt} (h : RAuK S X br c f l wr) (hb : Below wr.heap.size wr w4) (q : Pt) (ho : S.isOpen q = true) : RAuK S X br c f (l ++ [q]) (w4.setCell ⟨br, 3, none⟩ (.int .i64 ((S.nOpen l : Int) + 1))) := by
  obtain ⟨s1, s2, s3⟩ := step_open q h.n ho
  have hh := (hb.block br (heap_lt h.r)).trans h.r
  refine ⟨(h.k.thenBelow hb).setCell (p := ⟨br, 3, none⟩) (.inl (by simp)) _, ?_, s1⟩
  rw [s2, s3]
  simp [World.setCell, Array.getElem?_modify, hh, rrep]
theorem RAuK.wire1 {S : Wir} {X wr w4 : World} {br : Nat} {c f : Int} {l : List Pt} (h : RAuK S X br c f l wr) (hb : Below wr.heap.size wr w4) (q : Pt) (ho : S.isOpen q = false) (hbd : S.isBad q = false) : RAuK S X br c f (l ++ [q]) (w4.setCell ⟨br, 2, none⟩ (.int .i64 ((S.nWire l : Int) + 1))) := by
  obtain ⟨s1, s2, s3⟩ := step_ok q h.n ho hbd
  have hh := (hb.block br (heap_lt h.r)).trans h.r
  refine ⟨(h.k.thenBelow hb).setCell (p := ⟨br, 2, none⟩) (.inl (by simp)) _, ?_, s1⟩
  rw [s2, s3]
  simp [World.setCell, Array.getElem?_modify, hh, rrep]
theorem ptake_snoc {l : List Pt} {k : Nat} (hk : k < l.length) : l.take (k + 1) = l.take k ++ [l.getD k default] := by
  rw [List.take_add_one, List.getElem?_eq_getElem hk, List.getD_eq_getElem?_getD, List.getElem?_eq_getElem hk]; rfl
section
variable (B A : Nat) (S : Wir) (FA : List Nat) (As : Option Addr) (n cap : Nat) (L : List (ByteArray × Int)) (w : World)
set_option maxHeartbeats 8000000 in
theorem raudit_is (hn : n = L.length) (hcap : L.length ≤ cap) (HL : Hid (AgRd w As L)) (hl : L.length ≤ maxLen) (hG : Hid (RG w B A S FA)) :
    Calls Try.prog 102 #[.slice As n cap, .pointer (some ⟨B, 0, none⟩)] w (AuPost S (portsN L) (chk L).1 w) := by
  subst hn
  have HGz : Hid (∀ X, Below w.heap.size w X → RG X B A S FA) := fun X h => hG.out.below h
  have HLz : Hid (∀ X, Below w.heap.size w X → AgRd X As L) := fun X h => HL.out.below h
  obtain ⟨R, hR⟩ : ∃ R, R = AuPost S (portsN L) (chk L).1 w := ⟨_, rfl⟩
  rw [← hR]
  have HR0 := Lib.hid hR
  clear hR
  by_cases hz : (chk L).1 = 0
  · have HS := Lib.hid (chk_sig hz)
    have HZ := Lib.hid hz
    clear hz
    go_enter Try.func102, Try.ntmps102
    go_wp2_with (go_at_call 103
                 refine (rcheck_any As _ cap L _ rfl hl hcap (Lib.hid (HLz.out _ (by (repeat (first | exact Below.refl _ _ | (with_reducible refine Below.drew ?_) | (with_reducible refine Below.alloc ?_ (by (try simp); (try omega)) _) | (with_reducible refine Below.setCell ?_ (by (try simp); (try omega)) _) | (with_reducible refine Below.trans ?_ (Below.mono (by assumption) (by (try simp); (try omega)))))))))).mono ?_
                 rintro e w1 ⟨rfl, hb1⟩
                 rw [HZ.out])
    have r0 : w1.heap[w.heap.size]? = some (rrep 0 0 0 0) := (hb1.block w.heap.size (by simp)).trans (heap_alloc_new w _)
    have H1 : Hid (Below w.heap.size w w1 ∧ w1.heap[w.heap.size]? = some (rrep 0 0 0 0)) := ⟨by (repeat (first | exact Below.refl _ _ | (with_reducible refine Below.drew ?_) | (with_reducible refine Below.alloc ?_ (by (try simp); (try omega)) _) | (with_reducible refine Below.setCell ?_ (by (try simp); (try omega)) _) | (with_reducible refine Below.trans ?_ (Below.mono (by assumption) (by (try simp); (try omega)))))), r0⟩
    clear r0 hb1
    refine (rw_agents B A S FA As _ cap L w1 rfl hl (Lib.hid (HLz.out _ H1.out.1)) HS (HGz.out _ H1.out.1)).mono ?_
    rintro e w2 ⟨rfl, hb2⟩
    have H2 : Hid (Below w.heap.size w w2 ∧ w2.heap[w.heap.size]? = some (rrep 0 0 0 0)) := ⟨H1.out.1.trans (hb2.mono H1.out.1.size), (hb2.block _ (heap_lt H1.out.2)).trans H1.out.2⟩
    clear hb2
    cases hag : S.agBad (portsN L) (S.A.upto S.A.cells.length) with
    | some x =>
      have hv : S.auditV (portsN L) (chk L).1 = ((0, 0, 0, 0, ((x.1 : Int), 0)), 20) := by unfold Wir.auditV; rw [if_neg (by simp [HZ.out]), hag]
      have HV := Lib.hid hv
      have r0 := H2.out.2
      have hge : decide ((x.1 : Int) ≥ 0) = true := by simp
      have z0 : w2.cell? ⟨w.heap.size, 0, none⟩ = some (.int .i64 0) := by simp [World.cell?, r0, rrep]
      have z1 : w2.cell? ⟨w.heap.size, 1, none⟩ = some (.int .i64 0) := by simp [World.cell?, r0, rrep]
      have z2 : w2.cell? ⟨w.heap.size, 2, none⟩ = some (.int .i64 0) := by simp [World.cell?, r0, rrep]
      have z3 : w2.cell? ⟨w.heap.size, 3, none⟩ = some (.int .i64 0) := by simp [World.cell?, r0, rrep]
      have z4 : w2.cell? ⟨w.heap.size, 4, none⟩ = some (.int .i64 0) := by simp [World.cell?, r0, rrep]
      have z5 : w2.cell? ⟨w.heap.size, 5, none⟩ = some (.int .i64 0) := by simp [World.cell?, r0, rrep]
      have y0 : w2.frozen? ⟨w.heap.size, 0, none⟩ = false := by simp [World.frozen?, r0, rrep]
      have y1 : w2.frozen? ⟨w.heap.size, 1, none⟩ = false := by simp [World.frozen?, r0, rrep]
      have y2 : w2.frozen? ⟨w.heap.size, 2, none⟩ = false := by simp [World.frozen?, r0, rrep]
      have y3 : w2.frozen? ⟨w.heap.size, 3, none⟩ = false := by simp [World.frozen?, r0, rrep]
      have y4 : w2.frozen? ⟨w.heap.size, 4, none⟩ = false := by simp [World.frozen?, r0, rrep]
      have y5 : w2.frozen? ⟨w.heap.size, 5, none⟩ = false := by simp [World.frozen?, r0, rrep]
      have q0 := heap_lt r0
      clear r0 hv hag
      simp only [auAt]
      go_wp2_with fail
      have hv := HV.out
      rw [HR0.out]
      refine bodyPost_ret (v := .tuple #[.agg #[.int .i64 (0), .int .i64 (0), .int .i64 (0), .int .i64 (0), .int .i64 ((x.1 : Int)), .int .i64 (0)], .int .i64 (20)]) (by simp only [results, Try.results102]; go_simp) rfl ?_
      refine ⟨by rw [hv]; rfl, ?_⟩
      iterate 6 (refine Below.setCell ?_ (by (try simp) <;> omega) _)
      exact H2.out.1
    | none =>
      have HAG := Lib.hid hag
      clear hag
      simp only [auAt]
      go_upto_region 7 with fail
      have hg2 := HGz.out _ H2.out.1
      have c0 := hg2.cells.1
      obtain ⟨VP, cP, c1⟩ := hg2.cells.2
      obtain ⟨P0, FR, _, hra, _⟩ := hg2.split
      obtain ⟨VC, VB, cc, cb, _, _, _, c3, _, _, hAl⟩ := hra.head
      have hBl := hg2.lt
      have HC := Lib.hid (And.intro c0 (And.intro c1 c3))
      clear hg2 hra
      go_region_held3 (fun Y => Y.cell? ⟨B, 0, none⟩ = some (.pointer (some ⟨A, 0, none⟩)) ∧ Y.cell? ⟨B, 1, none⟩ = some (.slice VP S.P.length cP) ∧ Y.cell? ⟨A, 3, none⟩ = some (.int .i64 S.A.live))
        (first | with_reducible exact HC.out | (refine ⟨?_, ?_, ?_⟩ <;> go_simp))
        (fail)
      all_goals
        clear c0 c1 c3 HC
        go_upto_region 8 with fail
        refine absW (fun Y => Hid (Below w2.heap.size w2 Y ∧ Y.heap[w2.heap.size]? = some (rrep S.A.live (S.P.length : Int) 0 0))) (Lib.hid ⟨by (repeat (first | exact Below.refl _ _ | (with_reducible refine Below.drew ?_) | (with_reducible refine Below.alloc ?_ (by (try simp); (try omega)) _) | (with_reducible refine Below.setCell ?_ (by (try simp); (try omega)) _) | (with_reducible refine Below.trans ?_ (Below.mono (by assumption) (by (try simp); (try omega)))))), heap_alloc_new w2 _⟩) ?_
        intro Y HY
        go_wp2_with fail
        refine (rw_all B A S FA Y (HGz.out _ (H2.out.1.trans (HY.out.1.mono H2.out.1.size)))).mono ?_
        rintro e w3 ⟨V, c, rfl, hal⟩
        have hz2 := heap_lt H2.out.2
        have H3 : Hid (RAuB w B A S FA w2.heap.size V S.pts w3 ∧ w3.heap[w2.heap.size]? = some (rrep S.A.live (S.P.length : Int) 0 0)) := by
          have hb3 : Below w.heap.size w w3 := (H2.out.1.trans (HY.out.1.mono H2.out.1.size)).trans (hal.below.mono (Nat.le_trans H2.out.1.size HY.out.1.size))
          have hyl := heap_lt HY.out.2
          refine ⟨⟨hb3, HGz.out _ hb3, (hal.below.block _ (Nat.lt_of_lt_of_le hz2 HY.out.1.size)).trans ((HY.out.1.block _ hz2).trans H2.out.2), hal.rd, ⟨hz2, fun x off e => ?_⟩, hG.out.blt⟩, (hal.below.block _ hyl).trans HY.out.2⟩
          subst e
          have := hal.own x (by simp [ownB])
          omega
        have hpl := opens_le hG.out.ok
        obtain ⟨l, hl⟩ : ∃ l, S.pts = l := ⟨_, rfl⟩
        rw [hl] at hpl H3 ⊢
        have HPL := Lib.hid hl
        obtain ⟨lv, hlv⟩ : ∃ lv, S.A.live = lv := ⟨_, rfl⟩
        obtain ⟨np, hnp⟩ : ∃ np, S.P.length = np := ⟨_, rfl⟩
        rw [hlv, hnp] at H3
        have HLN := Lib.hid (And.intro hlv hnp)
        clear hal HY hl hz2 hlv hnp
        try clear c0 c1 c3 HC
        generalize w2.heap.size = br at *
        clear H2
        simp only []
        go_wp2_with fail
        go_loopw [11] (fun i wr => ∃ k : Nat, i = .int .i64 k ∧ k ≤ l.length ∧ Hid (RAuK S w3 br lv np (l.take k) wr)) (fun i _ => l.length - (intOf i).toNat)
        case atStart => exact ⟨0, rfl, Nat.zero_le _, ⟨Kp.refl _ _, by simpa [Wir.nWire, Wir.nOpen] using H3.out.2, rfl⟩⟩
        case round =>
          obtain ⟨k, rfl, hk, HR⟩ := hrel
          by_cases hlt : k < l.length
          · have hgr := H3.out.1.g.kp HR.out.k (fun b hb => by have := H3.out.1.lb b hb; have := H3.out.1.n.1; simp; omega)
            have hw1 := S.nWire_le (l.take k)
            have hw2 := S.nOpen_le (l.take k)
            have htl : (l.take k).length ≤ 30000 := by rw [List.length_take]; omega
            have hsn := ptake_snoc hlt
            obtain ⟨b, hV, hb, p0, p1⟩ := H3.out.1.p k hlt
            have hbn := H3.out.1.n.2 _ _ hV
            have pz0 := (HR.out.k.cell (p := ⟨b, k * 2, none⟩) hb (by simpa using hbn)).trans p0
            have pz1 := (HR.out.k.cell (p := ⟨b, k * 2 + 1, none⟩) hb (by simpa using hbn)).trans p1
            have pb : b < wr.heap.size := Nat.lt_of_lt_of_le hb HR.out.k.size
            have hrr := HR.out.r
            have HZz := Lib.hid ((HR.out.k.block _ (heap_lt H3.out.1.z) (by have := H3.out.1.n.1; simp; omega)).trans H3.out.1.z)
            have HBW := Lib.hid (H3.out.1.b.trans (HR.out.k.below H3.out.1.b.size (by have := H3.out.1.n.1; simp; omega)))
            obtain ⟨pre, hpre⟩ : ∃ pre, l.take k = pre := ⟨_, rfl⟩
            rw [hpre] at HR hsn hw1 hw2 htl hrr
            obtain ⟨⟨q0, q1⟩, hq⟩ : ∃ q, l.getD k default = q := ⟨_, rfl⟩
            rw [hq] at pz0 pz1 hsn
            have HSN := Lib.hid hsn
            have HPM := Lib.hid (And.intro hpre hq)
            obtain ⟨x, hx⟩ : ∃ x, S.nWire pre = x := ⟨_, rfl⟩
            obtain ⟨o, ho⟩ : ∃ o, S.nOpen pre = o := ⟨_, rfl⟩
            rw [hx] at hw1 hrr
            rw [ho] at hw2 hrr
            have HXO := Lib.hid (And.intro hx ho)
            have ewo : IntKind.i64.wrap ((o : Int) + 1) = (o : Int) + 1 := IntWalk.i64_in _ (by omega)
            have ewx : IntKind.i64.wrap ((x : Int) + 1) = (x : Int) + 1 := IntWalk.i64_in _ (by omega)
            have HKP : Hid (∀ Y, Below wr.heap.size wr Y → RG Y B A S FA ∧ Y.heap[br]? = some (rrep lv np x o) ∧ Y.cell? ⟨b, k * 2, none⟩ = some (.int .i64 q0) ∧ Y.cell? ⟨b, k * 2 + 1, none⟩ = some (.int .i64 q1) ∧ b < Y.heap.size) := fun Y hY =>
              ⟨hgr.below hY, (hY.block _ (heap_lt hrr)).trans hrr, (hY.cell (p := ⟨b, k * 2, none⟩) pb).trans pz0, (hY.cell (p := ⟨b, k * 2 + 1, none⟩) pb).trans pz1, Nat.lt_of_lt_of_le pb hY.size⟩
            dsimp only at pz0 pz1
            clear hgr hw1 hw2 htl hsn p0 p1 hbn hb hrr hpre hq hx ho
            subst hV
            cases hop : S.isOpen (q0, q1)
            · have hwv : (S.wV (q0, q1) == 4294967295) = false := by simpa [Wir.isOpen] using hop
              obtain ⟨v, hv2⟩ : ∃ v, S.wV (q0, q1) = v := ⟨_, rfl⟩
              rw [hv2] at hwv
              have HV := Lib.hid hv2
              obtain ⟨te, hte⟩ : ∃ te, S.toE (q0, q1) = te := ⟨_, rfl⟩
              have HTE := Lib.hid hte
              have HPK := Lib.hid (rfl : pkW q0 q1 = pkW q0 q1)
              clear hv2 hte
              by_cases k1 : te = 0
              · subst k1
                have hfe : S.wE (S.toP (q0, q1)) = 0 := by
                  have h1 := HTE.out
                  unfold Wir.toP
                  rw [if_pos h1]
                  unfold Wir.toE at h1
                  by_cases h2 : S.wE (q0, q1) ≠ 0
                  · rw [if_pos h2] at h1; exact absurd h1 (by decide)
                  · rw [if_neg h2] at h1
                    by_cases h3 : unOk (S.wV (q0, q1)) = true ∧ S.wE (nxP (S.wV (q0, q1))) = 0
                    · exact h3.2
                    · rw [if_neg h3] at h1; exact absurd h1 (by decide)
                have HFE := Lib.hid hfe
                clear hfe
                obtain ⟨vv, hvv⟩ : ∃ vv, S.wV (S.toP (q0, q1)) = vv := ⟨_, rfl⟩
                have HVV := Lib.hid hvv
                clear hvv
                by_cases k2 : vv = pkW q0 q1
                · subst k2
                  by_cases k3 : S.toP (q0, q1) = (q0, q1)
                  · have HBD : Hid (S.isBad (q0, q1) = true) := by show _ = _; simp [Wir.isBad, k3]
                    have HK3 := Lib.hid k3
                    clear k3
                    go_wp2_with fail
                    refine (rw_word B A S FA wr q0 q1 (HKP.out _ (Below.refl _ _)).1).mono ?_
                    rintro e w4 ⟨rfl, hb4⟩
                    rw [HV.out]
                    have HB4 := Lib.hid hb4
                    obtain ⟨_, _, a0, a1, ab⟩ := HKP.out _ hb4
                    clear hb4 pz0 pz1 pb
                    simp only []
                    go_wp2_with fail
                    refine (rw_to B A S FA w4 q0 q1 (HKP.out _ HB4.out).1).mono ?_
                    rintro e w5 ⟨rfl, hb5⟩
                    rw [HTE.out]
                    have HB5 := Lib.hid (HB4.out.trans (hb5.mono HB4.out.size))
                    clear hb5 a0 a1 ab
                    simp only []
                    go_upto_region 16 with fail
                    obtain ⟨bq, hbq⟩ : ∃ bq, w5.heap.size = bq := ⟨_, rfl⟩
                    refine absW (fun X => Hid (Below wr.heap.size wr X ∧ X.heap[w5.heap.size]? = some (.cells #[.int .i64 (S.toP (q0, q1)).1, .int .i64 (S.toP (q0, q1)).2] 39 (0, 0)))) (Lib.hid ⟨HB5.out.alloc HB5.out.size _, heap_alloc_new _ _⟩) ?_
                    intro X HX
                    rw [hbq] at HX ⊢
                    obtain ⟨⟨r0, r1⟩, hr⟩ : ∃ r, S.toP (q0, q1) = r := ⟨_, rfl⟩
                    rw [hr] at HX
                    have HRr := Lib.hid hr
                    clear hr hbq
                    have hx0 : X.cell? ⟨bq, 0, none⟩ = some (.int .i64 r0) := by simp [World.cell?, HX.out.2]
                    have hx1 : X.cell? ⟨bq, 1, none⟩ = some (.int .i64 r1) := by simp [World.cell?, HX.out.2]
                    have hxl := heap_lt HX.out.2
                    go_wp2_with fail
                    refine (rw_word B A S FA X r0 r1 (HKP.out _ HX.out.1).1).mono ?_
                    rintro e w6 ⟨rfl, hb6⟩
                    have H6 : Hid (Below wr.heap.size wr w6 ∧ w6.heap[bq]? = some (.cells #[.int .i64 r0, .int .i64 r1] 39 (0, 0))) := ⟨HX.out.1.trans (hb6.mono HX.out.1.size), (hb6.block _ hxl).trans HX.out.2⟩
                    obtain ⟨_, _, a0, a1, ab⟩ := HKP.out _ H6.out.1
                    clear hb6 hx0 hx1 hxl
                    simp only []
                    go_wp2_with fail
                    refine (pack_anyR q0 q1 w6).mono ?_
                    rintro e w7 ⟨rfl, hb7⟩
                    have H7 : Hid (Below wr.heap.size wr w7 ∧ w7.heap[bq]? = some (.cells #[.int .i64 r0, .int .i64 r1] 39 (0, 0))) := ⟨H6.out.1.trans (hb7.mono H6.out.1.size), (hb7.block _ (heap_lt H6.out.2)).trans H6.out.2⟩
                    clear hb7 a0 a1 ab
                    obtain ⟨_, hr7, a0, a1, ab⟩ := HKP.out _ H7.out.1
                    have b0 : w7.cell? ⟨bq, 0, none⟩ = some (.int .i64 r0) := by simp [World.cell?, H7.out.2]
                    have b1 : w7.cell? ⟨bq, 1, none⟩ = some (.int .i64 r1) := by simp [World.cell?, H7.out.2]
                    have bl := heap_lt H7.out.2
                    have HRW := Lib.hid hr7
                    clear hr7
                    have hk3 := HK3.out
                    have hvv := HVV.out
                    have hfe := HFE.out
                    rw [HRr.out] at hk3 hvv hfe
                    injection hk3 with hk31 hk32
                    rw [hvv, hfe]
                    have hne : eqP (r0, r1) (q0, q1) = true := by unfold eqP; simp [hk31, hk32]
                    clear hk31 hk32 hvv hfe
                    generalize pkE q0 q1 = pe
                    generalize pkW q0 q1 = own
                    go_upto_region 18 with fail
                    refine wp_region_noPanic ?_
                    refine wp_region_held_drew (S := fun Y => Y.cell? ⟨bq, 0, none⟩ = some (.int .i64 r0) ∧ Y.cell? ⟨bq, 1, none⟩ = some (.int .i64 r1) ∧ Y.cell? ⟨b, k * 2, none⟩ = some (.int .i64 q0) ∧ Y.cell? ⟨b, k * 2 + 1, none⟩ = some (.int .i64 q1)) (by kernel_rfl) ⟨b0, b1, a0, a1⟩ (fun hHeld => ?_)
                    refine wpAnyH_take (i := 0) (oi := ?oi0a) ?hi0a (by kernel_rfl) (by kernel_rfl) (by kernel_rfl) (fun _ _ _ h => h) (v := ?v0a) (Or.inl ⟨?hw0a, ?hy0a⟩) (by assumption) ?rest0a
                    case hi0a => ((iterate 0 (refine oq_next ?_)); exact oq_here)
                    case hw0a => rfl
                    case hy0a => intro w hSw; (try dsimp only at hSw); go_simp; try (with_reducible rfl)
                    try simp only [Act.put, List.setIfInBounds_toArray, List.set_cons_zero, List.set_cons_succ]
                    refine wpAnyH_take (i := 1) (oi := ?oi1a) ?hi1a (by kernel_rfl) (by kernel_rfl) (by kernel_rfl) (fun _ _ _ h => h) (v := ?v1a) (Or.inl ⟨?hw1a, ?hy1a⟩) (by assumption) ?rest1a
                    case hi1a => ((iterate 1 (refine oq_next ?_)); exact oq_here)
                    case hw1a => rfl
                    case hy1a => intro w hSw; (try dsimp only at hSw); go_simp; try (with_reducible rfl)
                    try simp only [Act.put, List.setIfInBounds_toArray, List.set_cons_zero, List.set_cons_succ]
                    refine wpAnyH_take (i := 2) (oi := ?oi2a) ?hi2a (by kernel_rfl) (by kernel_rfl) (by kernel_rfl) (fun _ _ _ h => h) (v := ?v2a) (Or.inl ⟨?hw2a, ?hy2a⟩) (by assumption) ?rest2a
                    case hi2a => ((iterate 2 (refine oq_next ?_)); exact oq_here)
                    case hw2a => rfl
                    case hy2a => intro w hSw; (try dsimp only at hSw); go_simp; try (with_reducible rfl)
                    try simp only [Act.put, List.setIfInBounds_toArray, List.set_cons_zero, List.set_cons_succ]
                    refine wpAnyH_take (i := 3) (oi := ?oi3a) ?hi3a (by kernel_rfl) (by kernel_rfl) (by kernel_rfl) (fun _ _ _ h => h) (v := ?v3a) (Or.inl ⟨?hw3a, ?hy3a⟩) (by assumption) ?rest3a
                    case hi3a => ((iterate 3 (refine oq_next ?_)); exact oq_here)
                    case hw3a => rfl
                    case hy3a => intro w hSw; (try dsimp only at hSw); go_simp; try (with_reducible rfl)
                    try simp only [Act.put, List.setIfInBounds_toArray, List.set_cons_zero, List.set_cons_succ]
                    refine wpAnyH_take (i := 4) (oi := ?oi4a) ?hi4a (by kernel_rfl) (by kernel_rfl) (by kernel_rfl) (fun _ _ _ h => h) (v := ?v4a) (Or.inl ⟨?hw4a, ?hy4a⟩) (by assumption) ?rest4a
                    case hi4a => ((iterate 4 (refine oq_next ?_)); exact oq_here)
                    case hw4a => rfl
                    case hy4a => intro w hSw; (try dsimp only at hSw); go_simp; try (with_reducible rfl)
                    try simp only [Act.put, List.setIfInBounds_toArray, List.set_cons_zero, List.set_cons_succ]
                    refine wpAnyH_take (i := 5) (oi := ?oi5a) ?hi5a (by kernel_rfl) (by kernel_rfl) (by kernel_rfl) (fun _ _ _ h => h) (v := ?v5a) (Or.inl ⟨?hw5a, ?hy5a⟩) (by assumption) ?rest5a
                    case hi5a => ((iterate 5 (refine oq_next ?_)); exact oq_here)
                    case hw5a => rfl
                    case hy5a => intro w hSw; (try dsimp only at hSw); go_simp; try (with_reducible rfl)
                    try simp only [Act.put, List.setIfInBounds_toArray, List.set_cons_zero, List.set_cons_succ]
                    refine wpAnyH_take (i := 6) (oi := ?oi6a) ?hi6a (by kernel_rfl) (by kernel_rfl) (by kernel_rfl) (fun _ _ _ h => h) (v := ?v6a) (Or.inl ⟨?hw6a, ?hy6a⟩) (by assumption) ?rest6a
                    case hi6a => ((iterate 6 (refine oq_next ?_)); exact oq_here)
                    case hw6a => rfl
                    case hy6a => intro w hSw; (try dsimp only at hSw); go_simp; try (with_reducible rfl)
                    try simp only [Act.put, List.setIfInBounds_toArray, List.set_cons_zero, List.set_cons_succ]
                    refine wpAnyH_take (i := 7) (oi := ?oi7a) ?hi7a (by kernel_rfl) (by kernel_rfl) (by kernel_rfl) (fun _ _ _ h => h) (v := ?v7a) (Or.inl ⟨?hw7a, ?hy7a⟩) (by assumption) ?rest7a
                    case hi7a => ((iterate 7 (refine oq_next ?_)); exact oq_here)
                    case hw7a => rfl
                    case hy7a => intro w hSw; (try dsimp only at hSw); go_simp; try (with_reducible rfl)
                    try simp only [Act.put, List.setIfInBounds_toArray, List.set_cons_zero, List.set_cons_succ]
                    refine wpAnyH_take (i := 8) (oi := ?oi8a) ?hi8a (by kernel_rfl) (by kernel_rfl) (by kernel_rfl) (fun _ _ _ h => h) (v := ?v8a) (Or.inl ⟨?hw8a, ?hy8a⟩) (by assumption) ?rest8a
                    case hi8a => ((iterate 8 (refine oq_next ?_)); exact oq_here)
                    case hw8a => rfl
                    case hy8a => intro w hSw; (try dsimp only at hSw); go_simp; try (with_reducible rfl)
                    try simp only [Act.put, List.setIfInBounds_toArray, List.set_cons_zero, List.set_cons_succ]
                    refine wpAnyH_take (i := 9) (oi := ?oi9a) ?hi9a (by kernel_rfl) (by kernel_rfl) (by kernel_rfl) (fun _ _ _ h => h) (v := ?v9a) (Or.inl ⟨?hw9a, ?hy9a⟩) (by assumption) ?rest9a
                    case hi9a => ((iterate 9 (refine oq_next ?_)); exact oq_here)
                    case hw9a => rfl
                    case hy9a => intro w hSw; (try dsimp only at hSw); go_simp; try (with_reducible rfl)
                    try simp only [Act.put, List.setIfInBounds_toArray, List.set_cons_zero, List.set_cons_succ]
                    refine wpAnyH_take (i := 10) (oi := ?oi10a) ?hi10a (by kernel_rfl) (by kernel_rfl) (by kernel_rfl) (fun _ _ _ h => h) (v := ?v10a) (Or.inl ⟨?hw10a, ?hy10a⟩) (by assumption) ?rest10a
                    case hi10a => ((iterate 10 (refine oq_next ?_)); exact oq_here)
                    case hw10a => rfl
                    case hy10a => intro w hSw; (try dsimp only at hSw); go_simp; try (with_reducible rfl)
                    try simp only [Act.put, List.setIfInBounds_toArray, List.set_cons_zero, List.set_cons_succ]
                    refine wpAnyH_take (i := 11) (oi := ?oi11a) ?hi11a (by kernel_rfl) (by kernel_rfl) (by kernel_rfl) (fun _ _ _ h => h) (v := ?v11a) (Or.inl ⟨?hw11a, ?hy11a⟩) (by assumption) ?rest11a
                    case hi11a => ((iterate 11 (refine oq_next ?_)); exact oq_here)
                    case hw11a => rfl
                    case hy11a => intro w hSw; (try dsimp only at hSw); go_simp; try (with_reducible rfl)
                    try simp only [Act.put, List.setIfInBounds_toArray, List.set_cons_zero, List.set_cons_succ]
                    refine wpAnyH_take (i := 12) (oi := ?oi12a) ?hi12a (by kernel_rfl) (by kernel_rfl) (by kernel_rfl) (fun _ _ _ h => h) (v := ?v12a) (Or.inl ⟨?hw12a, ?hy12a⟩) (by assumption) ?rest12a
                    case hi12a => ((iterate 12 (refine oq_next ?_)); exact oq_here)
                    case hw12a => rfl
                    case hy12a => intro w hSw; (try dsimp only at hSw); go_simp; try (with_reducible rfl)
                    try simp only [Act.put, List.setIfInBounds_toArray, List.set_cons_zero, List.set_cons_succ]
                    refine wpAnyH_take (i := 13) (oi := ?oi13a) ?hi13a (by kernel_rfl) (by kernel_rfl) (by kernel_rfl) (fun _ _ _ h => h) (v := ?v13a) (Or.inl ⟨?hw13a, ?hy13a⟩) (by assumption) ?rest13a
                    case hi13a => ((iterate 13 (refine oq_next ?_)); exact oq_here)
                    case hw13a => rfl
                    case hy13a => intro w hSw; (try dsimp only at hSw); go_simp; try (with_reducible rfl)
                    try simp only [Act.put, List.setIfInBounds_toArray, List.set_cons_zero, List.set_cons_succ]
                    refine wpAnyH_take (i := 14) (oi := ?oi14a) ?hi14a (by kernel_rfl) (by kernel_rfl) (by kernel_rfl) (fun _ _ _ h => h) (v := ?v14a) (Or.inl ⟨?hw14a, ?hy14a⟩) (by assumption) ?rest14a
                    case hi14a => ((iterate 14 (refine oq_next ?_)); exact oq_here)
                    case hw14a => rfl
                    case hy14a => intro w hSw; (try dsimp only at hSw); go_simp; try (with_reducible rfl)
                    try simp only [Act.put, List.setIfInBounds_toArray, List.set_cons_zero, List.set_cons_succ]
                    refine wpAnyH_take (i := 15) (oi := ?oi15a) ?hi15a (by kernel_rfl) (by kernel_rfl) (by kernel_rfl) (fun _ _ _ h => h) (v := ?v15a) (Or.inl ⟨?hw15a, ?hy15a⟩) (by assumption) ?rest15a
                    case hi15a => ((iterate 15 (refine oq_next ?_)); exact oq_here)
                    case hw15a => rfl
                    case hy15a => intro w hSw; (try dsimp only at hSw); go_simp; try (with_reducible rfl)
                    try simp only [Act.put, List.setIfInBounds_toArray, List.set_cons_zero, List.set_cons_succ]
                    refine wpAnyH_take (i := 16) (oi := ?oi16a) ?hi16a (by kernel_rfl) (by kernel_rfl) (by kernel_rfl) (fun _ _ _ h => h) (v := ?v16a) (Or.inl ⟨?hw16a, ?hy16a⟩) (by assumption) ?rest16a
                    case hi16a => ((iterate 16 (refine oq_next ?_)); exact oq_here)
                    case hw16a => rfl
                    case hy16a => intro w hSw; (try dsimp only at hSw); go_simp; try (with_reducible rfl)
                    try simp only [Act.put, List.setIfInBounds_toArray, List.set_cons_zero, List.set_cons_succ]
                    refine wpAnyH_take (i := 17) (oi := ?oi17a) ?hi17a (by kernel_rfl) (by kernel_rfl) (by kernel_rfl) (fun _ _ _ h => h) (v := ?v17a) (Or.inl ⟨?hw17a, ?hy17a⟩) (by assumption) ?rest17a
                    case hi17a => ((iterate 17 (refine oq_next ?_)); exact oq_here)
                    case hw17a => rfl
                    case hy17a => intro w hSw; (try dsimp only at hSw); go_simp; (try rw [hne]); (try with_reducible rfl)
                    try simp only [Act.put, List.setIfInBounds_toArray, List.set_cons_zero, List.set_cons_succ]
                    refine wpAnyH_take (i := 18) (oi := ?oi18a) ?hi18a (by kernel_rfl) (by kernel_rfl) (by kernel_rfl) (fun _ _ _ h => h) (v := ?v18a) (Or.inl ⟨?hw18a, ?hy18a⟩) (by assumption) ?rest18a
                    case hi18a => ((iterate 18 (refine oq_next ?_)); exact oq_here)
                    case hw18a => rfl
                    case hy18a => intro w hSw; (try dsimp only at hSw); go_simp; try (with_reducible rfl)
                    try simp only [Act.put, List.setIfInBounds_toArray, List.set_cons_zero, List.set_cons_succ]
                    refine wpAnyH_done (by kernel_rfl) ?_ _
                    refine NoPanic.normal ?_
                    have hzz := (H7.out.1.block _ (heap_lt HZz.out)).trans HZz.out
                    have z0 : w7.cell? ⟨w.heap.size, 0, none⟩ = some (.int .i64 0) := by simp [World.cell?, hzz, rrep]
                    have z1 : w7.cell? ⟨w.heap.size, 1, none⟩ = some (.int .i64 0) := by simp [World.cell?, hzz, rrep]
                    have z2 : w7.cell? ⟨w.heap.size, 2, none⟩ = some (.int .i64 0) := by simp [World.cell?, hzz, rrep]
                    have z3 : w7.cell? ⟨w.heap.size, 3, none⟩ = some (.int .i64 0) := by simp [World.cell?, hzz, rrep]
                    have z4 : w7.cell? ⟨w.heap.size, 4, none⟩ = some (.int .i64 0) := by simp [World.cell?, hzz, rrep]
                    have z5 : w7.cell? ⟨w.heap.size, 5, none⟩ = some (.int .i64 0) := by simp [World.cell?, hzz, rrep]
                    have y0 : w7.frozen? ⟨w.heap.size, 0, none⟩ = false := by simp [World.frozen?, hzz, rrep]
                    have y1 : w7.frozen? ⟨w.heap.size, 1, none⟩ = false := by simp [World.frozen?, hzz, rrep]
                    have y2 : w7.frozen? ⟨w.heap.size, 2, none⟩ = false := by simp [World.frozen?, hzz, rrep]
                    have y3 : w7.frozen? ⟨w.heap.size, 3, none⟩ = false := by simp [World.frozen?, hzz, rrep]
                    have y4 : w7.frozen? ⟨w.heap.size, 4, none⟩ = false := by simp [World.frozen?, hzz, rrep]
                    have y5 : w7.frozen? ⟨w.heap.size, 5, none⟩ = false := by simp [World.frozen?, hzz, rrep]
                    have zl := heap_lt hzz
                    have HB7 := Lib.hid (HBW.out.trans (H7.out.1.mono HBW.out.size))
                    clear hzz
                    go_wp2_with fail
                    have hv : S.auditV (portsN L) (chk L).1 = ((0, 0, 0, 0, (q0, q1)), 42) := by
                      have h1 := step_bad (q0, q1) HR.out.n hop HBD.out
                      rw [← HSN.out] at h1
                      have h2 := S.firstBad_pre (r := l.drop (k + 1)) h1
                      rw [List.take_append_drop] at h2
                      unfold Wir.auditV
                      rw [if_neg (by simp [HZ.out]), HAG.out, HPL.out, h2]
                    rw [HR0.out]
                    refine bodyPost_ret (v := .tuple #[.agg #[.int .i64 (0), .int .i64 (0), .int .i64 (0), .int .i64 (0), .int .i64 (q0), .int .i64 (q1)], .int .i64 (42)]) (by simp only [results, Try.results102]; go_simp) rfl ?_
                    refine ⟨by rw [hv]; rfl, ?_⟩
                    refine Below.drew ?_
                    iterate 6 (refine Below.setCell ?_ (by (try simp) <;> omega) _)
                    exact HB7.out
                  · have HBD : Hid (S.isBad (q0, q1) = false) := by show _ = _; simp [Wir.isBad, k3, HTE.out, HVV.out]
                    have HK3 := Lib.hid k3
                    clear k3
                    go_wp2_with fail
                    refine (rw_word B A S FA wr q0 q1 (HKP.out _ (Below.refl _ _)).1).mono ?_
                    rintro e w4 ⟨rfl, hb4⟩
                    rw [HV.out]
                    have HB4 := Lib.hid hb4
                    obtain ⟨_, _, a0, a1, ab⟩ := HKP.out _ hb4
                    clear hb4 pz0 pz1 pb
                    simp only []
                    go_wp2_with fail
                    refine (rw_to B A S FA w4 q0 q1 (HKP.out _ HB4.out).1).mono ?_
                    rintro e w5 ⟨rfl, hb5⟩
                    rw [HTE.out]
                    have HB5 := Lib.hid (HB4.out.trans (hb5.mono HB4.out.size))
                    clear hb5 a0 a1 ab
                    simp only []
                    go_upto_region 16 with fail
                    obtain ⟨bq, hbq⟩ : ∃ bq, w5.heap.size = bq := ⟨_, rfl⟩
                    refine absW (fun X => Hid (Below wr.heap.size wr X ∧ X.heap[w5.heap.size]? = some (.cells #[.int .i64 (S.toP (q0, q1)).1, .int .i64 (S.toP (q0, q1)).2] 39 (0, 0)))) (Lib.hid ⟨HB5.out.alloc HB5.out.size _, heap_alloc_new _ _⟩) ?_
                    intro X HX
                    rw [hbq] at HX ⊢
                    obtain ⟨⟨r0, r1⟩, hr⟩ : ∃ r, S.toP (q0, q1) = r := ⟨_, rfl⟩
                    rw [hr] at HX
                    have HRr := Lib.hid hr
                    clear hr hbq
                    have hx0 : X.cell? ⟨bq, 0, none⟩ = some (.int .i64 r0) := by simp [World.cell?, HX.out.2]
                    have hx1 : X.cell? ⟨bq, 1, none⟩ = some (.int .i64 r1) := by simp [World.cell?, HX.out.2]
                    have hxl := heap_lt HX.out.2
                    go_wp2_with fail
                    refine (rw_word B A S FA X r0 r1 (HKP.out _ HX.out.1).1).mono ?_
                    rintro e w6 ⟨rfl, hb6⟩
                    have H6 : Hid (Below wr.heap.size wr w6 ∧ w6.heap[bq]? = some (.cells #[.int .i64 r0, .int .i64 r1] 39 (0, 0))) := ⟨HX.out.1.trans (hb6.mono HX.out.1.size), (hb6.block _ hxl).trans HX.out.2⟩
                    obtain ⟨_, _, a0, a1, ab⟩ := HKP.out _ H6.out.1
                    clear hb6 hx0 hx1 hxl
                    simp only []
                    go_wp2_with fail
                    refine (pack_anyR q0 q1 w6).mono ?_
                    rintro e w7 ⟨rfl, hb7⟩
                    have H7 : Hid (Below wr.heap.size wr w7 ∧ w7.heap[bq]? = some (.cells #[.int .i64 r0, .int .i64 r1] 39 (0, 0))) := ⟨H6.out.1.trans (hb7.mono H6.out.1.size), (hb7.block _ (heap_lt H6.out.2)).trans H6.out.2⟩
                    clear hb7 a0 a1 ab
                    obtain ⟨_, hr7, a0, a1, ab⟩ := HKP.out _ H7.out.1
                    have b0 : w7.cell? ⟨bq, 0, none⟩ = some (.int .i64 r0) := by simp [World.cell?, H7.out.2]
                    have b1 : w7.cell? ⟨bq, 1, none⟩ = some (.int .i64 r1) := by simp [World.cell?, H7.out.2]
                    have bl := heap_lt H7.out.2
                    have HRW := Lib.hid hr7
                    clear hr7
                    have hk3 := HK3.out
                    have hvv := HVV.out
                    have hfe := HFE.out
                    rw [HRr.out] at hk3 hvv hfe
                    rw [hvv, hfe]
                    have hne : eqP (r0, r1) (q0, q1) = false := by unfold eqP; simpa using hk3
                    clear hk3 hvv hfe
                    generalize pkE q0 q1 = pe
                    generalize pkW q0 q1 = own
                    go_upto_region 18 with fail
                    refine wp_region_noPanic ?_
                    refine wp_region_held_drew (S := fun Y => Y.cell? ⟨bq, 0, none⟩ = some (.int .i64 r0) ∧ Y.cell? ⟨bq, 1, none⟩ = some (.int .i64 r1) ∧ Y.cell? ⟨b, k * 2, none⟩ = some (.int .i64 q0) ∧ Y.cell? ⟨b, k * 2 + 1, none⟩ = some (.int .i64 q1)) (by kernel_rfl) ⟨b0, b1, a0, a1⟩ (fun hHeld => ?_)
                    refine wpAnyH_take (i := 0) (oi := ?oi0b) ?hi0b (by kernel_rfl) (by kernel_rfl) (by kernel_rfl) (fun _ _ _ h => h) (v := ?v0b) (Or.inl ⟨?hw0b, ?hy0b⟩) (by assumption) ?rest0b
                    case hi0b => ((iterate 0 (refine oq_next ?_)); exact oq_here)
                    case hw0b => rfl
                    case hy0b => intro w hSw; (try dsimp only at hSw); go_simp; try (with_reducible rfl)
                    try simp only [Act.put, List.setIfInBounds_toArray, List.set_cons_zero, List.set_cons_succ]
                    refine wpAnyH_take (i := 1) (oi := ?oi1b) ?hi1b (by kernel_rfl) (by kernel_rfl) (by kernel_rfl) (fun _ _ _ h => h) (v := ?v1b) (Or.inl ⟨?hw1b, ?hy1b⟩) (by assumption) ?rest1b
                    case hi1b => ((iterate 1 (refine oq_next ?_)); exact oq_here)
                    case hw1b => rfl
                    case hy1b => intro w hSw; (try dsimp only at hSw); go_simp; try (with_reducible rfl)
                    try simp only [Act.put, List.setIfInBounds_toArray, List.set_cons_zero, List.set_cons_succ]
                    refine wpAnyH_take (i := 2) (oi := ?oi2b) ?hi2b (by kernel_rfl) (by kernel_rfl) (by kernel_rfl) (fun _ _ _ h => h) (v := ?v2b) (Or.inl ⟨?hw2b, ?hy2b⟩) (by assumption) ?rest2b
                    case hi2b => ((iterate 2 (refine oq_next ?_)); exact oq_here)
                    case hw2b => rfl
                    case hy2b => intro w hSw; (try dsimp only at hSw); go_simp; try (with_reducible rfl)
                    try simp only [Act.put, List.setIfInBounds_toArray, List.set_cons_zero, List.set_cons_succ]
                    refine wpAnyH_take (i := 3) (oi := ?oi3b) ?hi3b (by kernel_rfl) (by kernel_rfl) (by kernel_rfl) (fun _ _ _ h => h) (v := ?v3b) (Or.inl ⟨?hw3b, ?hy3b⟩) (by assumption) ?rest3b
                    case hi3b => ((iterate 3 (refine oq_next ?_)); exact oq_here)
                    case hw3b => rfl
                    case hy3b => intro w hSw; (try dsimp only at hSw); go_simp; try (with_reducible rfl)
                    try simp only [Act.put, List.setIfInBounds_toArray, List.set_cons_zero, List.set_cons_succ]
                    refine wpAnyH_take (i := 4) (oi := ?oi4b) ?hi4b (by kernel_rfl) (by kernel_rfl) (by kernel_rfl) (fun _ _ _ h => h) (v := ?v4b) (Or.inl ⟨?hw4b, ?hy4b⟩) (by assumption) ?rest4b
                    case hi4b => ((iterate 4 (refine oq_next ?_)); exact oq_here)
                    case hw4b => rfl
                    case hy4b => intro w hSw; (try dsimp only at hSw); go_simp; try (with_reducible rfl)
                    try simp only [Act.put, List.setIfInBounds_toArray, List.set_cons_zero, List.set_cons_succ]
                    refine wpAnyH_take (i := 5) (oi := ?oi5b) ?hi5b (by kernel_rfl) (by kernel_rfl) (by kernel_rfl) (fun _ _ _ h => h) (v := ?v5b) (Or.inl ⟨?hw5b, ?hy5b⟩) (by assumption) ?rest5b
                    case hi5b => ((iterate 5 (refine oq_next ?_)); exact oq_here)
                    case hw5b => rfl
                    case hy5b => intro w hSw; (try dsimp only at hSw); go_simp; try (with_reducible rfl)
                    try simp only [Act.put, List.setIfInBounds_toArray, List.set_cons_zero, List.set_cons_succ]
                    refine wpAnyH_take (i := 6) (oi := ?oi6b) ?hi6b (by kernel_rfl) (by kernel_rfl) (by kernel_rfl) (fun _ _ _ h => h) (v := ?v6b) (Or.inl ⟨?hw6b, ?hy6b⟩) (by assumption) ?rest6b
                    case hi6b => ((iterate 6 (refine oq_next ?_)); exact oq_here)
                    case hw6b => rfl
                    case hy6b => intro w hSw; (try dsimp only at hSw); go_simp; try (with_reducible rfl)
                    try simp only [Act.put, List.setIfInBounds_toArray, List.set_cons_zero, List.set_cons_succ]
                    refine wpAnyH_take (i := 7) (oi := ?oi7b) ?hi7b (by kernel_rfl) (by kernel_rfl) (by kernel_rfl) (fun _ _ _ h => h) (v := ?v7b) (Or.inl ⟨?hw7b, ?hy7b⟩) (by assumption) ?rest7b
                    case hi7b => ((iterate 7 (refine oq_next ?_)); exact oq_here)
                    case hw7b => rfl
                    case hy7b => intro w hSw; (try dsimp only at hSw); go_simp; try (with_reducible rfl)
                    try simp only [Act.put, List.setIfInBounds_toArray, List.set_cons_zero, List.set_cons_succ]
                    refine wpAnyH_take (i := 8) (oi := ?oi8b) ?hi8b (by kernel_rfl) (by kernel_rfl) (by kernel_rfl) (fun _ _ _ h => h) (v := ?v8b) (Or.inl ⟨?hw8b, ?hy8b⟩) (by assumption) ?rest8b
                    case hi8b => ((iterate 8 (refine oq_next ?_)); exact oq_here)
                    case hw8b => rfl
                    case hy8b => intro w hSw; (try dsimp only at hSw); go_simp; try (with_reducible rfl)
                    try simp only [Act.put, List.setIfInBounds_toArray, List.set_cons_zero, List.set_cons_succ]
                    refine wpAnyH_take (i := 9) (oi := ?oi9b) ?hi9b (by kernel_rfl) (by kernel_rfl) (by kernel_rfl) (fun _ _ _ h => h) (v := ?v9b) (Or.inl ⟨?hw9b, ?hy9b⟩) (by assumption) ?rest9b
                    case hi9b => ((iterate 9 (refine oq_next ?_)); exact oq_here)
                    case hw9b => rfl
                    case hy9b => intro w hSw; (try dsimp only at hSw); go_simp; try (with_reducible rfl)
                    try simp only [Act.put, List.setIfInBounds_toArray, List.set_cons_zero, List.set_cons_succ]
                    refine wpAnyH_take (i := 10) (oi := ?oi10b) ?hi10b (by kernel_rfl) (by kernel_rfl) (by kernel_rfl) (fun _ _ _ h => h) (v := ?v10b) (Or.inl ⟨?hw10b, ?hy10b⟩) (by assumption) ?rest10b
                    case hi10b => ((iterate 10 (refine oq_next ?_)); exact oq_here)
                    case hw10b => rfl
                    case hy10b => intro w hSw; (try dsimp only at hSw); go_simp; try (with_reducible rfl)
                    try simp only [Act.put, List.setIfInBounds_toArray, List.set_cons_zero, List.set_cons_succ]
                    refine wpAnyH_take (i := 11) (oi := ?oi11b) ?hi11b (by kernel_rfl) (by kernel_rfl) (by kernel_rfl) (fun _ _ _ h => h) (v := ?v11b) (Or.inl ⟨?hw11b, ?hy11b⟩) (by assumption) ?rest11b
                    case hi11b => ((iterate 11 (refine oq_next ?_)); exact oq_here)
                    case hw11b => rfl
                    case hy11b => intro w hSw; (try dsimp only at hSw); go_simp; try (with_reducible rfl)
                    try simp only [Act.put, List.setIfInBounds_toArray, List.set_cons_zero, List.set_cons_succ]
                    refine wpAnyH_take (i := 12) (oi := ?oi12b) ?hi12b (by kernel_rfl) (by kernel_rfl) (by kernel_rfl) (fun _ _ _ h => h) (v := ?v12b) (Or.inl ⟨?hw12b, ?hy12b⟩) (by assumption) ?rest12b
                    case hi12b => ((iterate 12 (refine oq_next ?_)); exact oq_here)
                    case hw12b => rfl
                    case hy12b => intro w hSw; (try dsimp only at hSw); go_simp; try (with_reducible rfl)
                    try simp only [Act.put, List.setIfInBounds_toArray, List.set_cons_zero, List.set_cons_succ]
                    refine wpAnyH_take (i := 13) (oi := ?oi13b) ?hi13b (by kernel_rfl) (by kernel_rfl) (by kernel_rfl) (fun _ _ _ h => h) (v := ?v13b) (Or.inl ⟨?hw13b, ?hy13b⟩) (by assumption) ?rest13b
                    case hi13b => ((iterate 13 (refine oq_next ?_)); exact oq_here)
                    case hw13b => rfl
                    case hy13b => intro w hSw; (try dsimp only at hSw); go_simp; try (with_reducible rfl)
                    try simp only [Act.put, List.setIfInBounds_toArray, List.set_cons_zero, List.set_cons_succ]
                    refine wpAnyH_take (i := 14) (oi := ?oi14b) ?hi14b (by kernel_rfl) (by kernel_rfl) (by kernel_rfl) (fun _ _ _ h => h) (v := ?v14b) (Or.inl ⟨?hw14b, ?hy14b⟩) (by assumption) ?rest14b
                    case hi14b => ((iterate 14 (refine oq_next ?_)); exact oq_here)
                    case hw14b => rfl
                    case hy14b => intro w hSw; (try dsimp only at hSw); go_simp; try (with_reducible rfl)
                    try simp only [Act.put, List.setIfInBounds_toArray, List.set_cons_zero, List.set_cons_succ]
                    refine wpAnyH_take (i := 15) (oi := ?oi15b) ?hi15b (by kernel_rfl) (by kernel_rfl) (by kernel_rfl) (fun _ _ _ h => h) (v := ?v15b) (Or.inl ⟨?hw15b, ?hy15b⟩) (by assumption) ?rest15b
                    case hi15b => ((iterate 15 (refine oq_next ?_)); exact oq_here)
                    case hw15b => rfl
                    case hy15b => intro w hSw; (try dsimp only at hSw); go_simp; try (with_reducible rfl)
                    try simp only [Act.put, List.setIfInBounds_toArray, List.set_cons_zero, List.set_cons_succ]
                    refine wpAnyH_take (i := 16) (oi := ?oi16b) ?hi16b (by kernel_rfl) (by kernel_rfl) (by kernel_rfl) (fun _ _ _ h => h) (v := ?v16b) (Or.inl ⟨?hw16b, ?hy16b⟩) (by assumption) ?rest16b
                    case hi16b => ((iterate 16 (refine oq_next ?_)); exact oq_here)
                    case hw16b => rfl
                    case hy16b => intro w hSw; (try dsimp only at hSw); go_simp; try (with_reducible rfl)
                    try simp only [Act.put, List.setIfInBounds_toArray, List.set_cons_zero, List.set_cons_succ]
                    refine wpAnyH_take (i := 17) (oi := ?oi17b) ?hi17b (by kernel_rfl) (by kernel_rfl) (by kernel_rfl) (fun _ _ _ h => h) (v := ?v17b) (Or.inl ⟨?hw17b, ?hy17b⟩) (by assumption) ?rest17b
                    case hi17b => ((iterate 17 (refine oq_next ?_)); exact oq_here)
                    case hw17b => rfl
                    case hy17b => intro w hSw; (try dsimp only at hSw); go_simp; (try rw [hne]); (try with_reducible rfl)
                    try simp only [Act.put, List.setIfInBounds_toArray, List.set_cons_zero, List.set_cons_succ]
                    refine wpAnyH_take (i := 18) (oi := ?oi18b) ?hi18b (by kernel_rfl) (by kernel_rfl) (by kernel_rfl) (fun _ _ _ h => h) (v := ?v18b) (Or.inl ⟨?hw18b, ?hy18b⟩) (by assumption) ?rest18b
                    case hi18b => ((iterate 18 (refine oq_next ?_)); exact oq_here)
                    case hw18b => rfl
                    case hy18b => intro w hSw; (try dsimp only at hSw); go_simp; try (with_reducible rfl)
                    try simp only [Act.put, List.setIfInBounds_toArray, List.set_cons_zero, List.set_cons_succ]
                    refine wpAnyH_done (by kernel_rfl) ?_ _
                    refine NoPanic.normal ?_
                    have hrr7 := HRW.out
                    have o0 : w7.cell? ⟨br, 2, none⟩ = some (.int .i64 x) := (by simp [World.cell?, hrr7, rrep])
                    have of : w7.frozen? ⟨br, 2, none⟩ = false := (by simp [World.frozen?, hrr7, rrep])
                    have ol := heap_lt hrr7
                    clear hrr7
                    go_wp2_with fail
                    go_roundw
                    case measure => simp [intOf]; omega
                    case rel => exact ⟨k + 1, by go_num, by omega, by rw [HSN.out, ← HXO.out.1]; exact HR.out.wire1 H7.out.1.drew (q0, q1) hop HBD.out⟩
                · have HBD : Hid (S.isBad (q0, q1) = true) := by show _ = _; simp [Wir.isBad, HVV.out, k2]
                  have hnb : (vv != pkW q0 q1) = true := by simpa using k2
                  clear k2
                  go_wp2_with fail
                  refine (rw_word B A S FA wr q0 q1 (HKP.out _ (Below.refl _ _)).1).mono ?_
                  rintro e w4 ⟨rfl, hb4⟩
                  rw [HV.out]
                  have HB4 := Lib.hid hb4
                  obtain ⟨_, _, a0, a1, ab⟩ := HKP.out _ hb4
                  clear hb4 pz0 pz1 pb
                  simp only []
                  go_wp2_with fail
                  refine (rw_to B A S FA w4 q0 q1 (HKP.out _ HB4.out).1).mono ?_
                  rintro e w5 ⟨rfl, hb5⟩
                  rw [HTE.out]
                  have HB5 := Lib.hid (HB4.out.trans (hb5.mono HB4.out.size))
                  clear hb5 a0 a1 ab
                  simp only []
                  go_upto_region 16 with fail
                  obtain ⟨bq, hbq⟩ : ∃ bq, w5.heap.size = bq := ⟨_, rfl⟩
                  refine absW (fun X => Hid (Below wr.heap.size wr X ∧ X.heap[w5.heap.size]? = some (.cells #[.int .i64 (S.toP (q0, q1)).1, .int .i64 (S.toP (q0, q1)).2] 39 (0, 0)))) (Lib.hid ⟨HB5.out.alloc HB5.out.size _, heap_alloc_new _ _⟩) ?_
                  intro X HX
                  rw [hbq] at HX ⊢
                  obtain ⟨⟨r0, r1⟩, hr⟩ : ∃ r, S.toP (q0, q1) = r := ⟨_, rfl⟩
                  rw [hr] at HX
                  have HRr := Lib.hid hr
                  clear hr hbq
                  have hx0 : X.cell? ⟨bq, 0, none⟩ = some (.int .i64 r0) := by simp [World.cell?, HX.out.2]
                  have hx1 : X.cell? ⟨bq, 1, none⟩ = some (.int .i64 r1) := by simp [World.cell?, HX.out.2]
                  have hxl := heap_lt HX.out.2
                  go_wp2_with fail
                  refine (rw_word B A S FA X r0 r1 (HKP.out _ HX.out.1).1).mono ?_
                  rintro e w6 ⟨rfl, hb6⟩
                  have H6 : Hid (Below wr.heap.size wr w6 ∧ w6.heap[bq]? = some (.cells #[.int .i64 r0, .int .i64 r1] 39 (0, 0))) := ⟨HX.out.1.trans (hb6.mono HX.out.1.size), (hb6.block _ hxl).trans HX.out.2⟩
                  obtain ⟨_, _, a0, a1, ab⟩ := HKP.out _ H6.out.1
                  clear hb6 hx0 hx1 hxl
                  simp only []
                  go_wp2_with fail
                  refine (pack_anyR q0 q1 w6).mono ?_
                  rintro e w7 ⟨rfl, hb7⟩
                  have H7 : Hid (Below wr.heap.size wr w7 ∧ w7.heap[bq]? = some (.cells #[.int .i64 r0, .int .i64 r1] 39 (0, 0))) := ⟨H6.out.1.trans (hb7.mono H6.out.1.size), (hb7.block _ (heap_lt H6.out.2)).trans H6.out.2⟩
                  clear hb7 a0 a1 ab
                  obtain ⟨_, hr7, a0, a1, ab⟩ := HKP.out _ H7.out.1
                  have b0 : w7.cell? ⟨bq, 0, none⟩ = some (.int .i64 r0) := by simp [World.cell?, H7.out.2]
                  have b1 : w7.cell? ⟨bq, 1, none⟩ = some (.int .i64 r1) := by simp [World.cell?, H7.out.2]
                  have bl := heap_lt H7.out.2
                  have HRW := Lib.hid hr7
                  clear hr7
                  have hvv := HVV.out
                  have hfe := HFE.out
                  rw [HRr.out] at hvv hfe
                  rw [hvv, hfe]
                  clear hvv hfe
                  generalize pkE q0 q1 = pe
                  generalize pkW q0 q1 = own at *
                  go_upto_region 18 with fail
                  refine wp_region_noPanic ?_
                  refine wp_region_held_drew (S := fun Y => Y.cell? ⟨bq, 0, none⟩ = some (.int .i64 r0) ∧ Y.cell? ⟨bq, 1, none⟩ = some (.int .i64 r1) ∧ Y.cell? ⟨b, k * 2, none⟩ = some (.int .i64 q0) ∧ Y.cell? ⟨b, k * 2 + 1, none⟩ = some (.int .i64 q1)) (by kernel_rfl) ⟨b0, b1, a0, a1⟩ (fun hHeld => ?_)
                  refine wpAnyH_take (i := 0) (oi := ?oi0c) ?hi0c (by kernel_rfl) (by kernel_rfl) (by kernel_rfl) (fun _ _ _ h => h) (v := ?v0c) (Or.inl ⟨?hw0c, ?hy0c⟩) (by assumption) ?rest0c
                  case hi0c => ((iterate 0 (refine oq_next ?_)); exact oq_here)
                  case hw0c => rfl
                  case hy0c => intro w hSw; (try dsimp only at hSw); go_simp; try (with_reducible rfl)
                  try simp only [Act.put, List.setIfInBounds_toArray, List.set_cons_zero, List.set_cons_succ]
                  refine wpAnyH_take (i := 1) (oi := ?oi1c) ?hi1c (by kernel_rfl) (by kernel_rfl) (by kernel_rfl) (fun _ _ _ h => h) (v := ?v1c) (Or.inl ⟨?hw1c, ?hy1c⟩) (by assumption) ?rest1c
                  case hi1c => ((iterate 1 (refine oq_next ?_)); exact oq_here)
                  case hw1c => rfl
                  case hy1c => intro w hSw; (try dsimp only at hSw); go_simp; try (with_reducible rfl)
                  try simp only [Act.put, List.setIfInBounds_toArray, List.set_cons_zero, List.set_cons_succ]
                  refine wpAnyH_take (i := 2) (oi := ?oi2c) ?hi2c (by kernel_rfl) (by kernel_rfl) (by kernel_rfl) (fun _ _ _ h => h) (v := ?v2c) (Or.inl ⟨?hw2c, ?hy2c⟩) (by assumption) ?rest2c
                  case hi2c => ((iterate 2 (refine oq_next ?_)); exact oq_here)
                  case hw2c => rfl
                  case hy2c => intro w hSw; (try dsimp only at hSw); go_simp; try (with_reducible rfl)
                  try simp only [Act.put, List.setIfInBounds_toArray, List.set_cons_zero, List.set_cons_succ]
                  refine wpAnyH_take (i := 3) (oi := ?oi3c) ?hi3c (by kernel_rfl) (by kernel_rfl) (by kernel_rfl) (fun _ _ _ h => h) (v := ?v3c) (Or.inl ⟨?hw3c, ?hy3c⟩) (by assumption) ?rest3c
                  case hi3c => ((iterate 3 (refine oq_next ?_)); exact oq_here)
                  case hw3c => rfl
                  case hy3c => intro w hSw; (try dsimp only at hSw); go_simp; try (with_reducible rfl)
                  try simp only [Act.put, List.setIfInBounds_toArray, List.set_cons_zero, List.set_cons_succ]
                  refine wpAnyH_take (i := 4) (oi := ?oi4c) ?hi4c (by kernel_rfl) (by kernel_rfl) (by kernel_rfl) (fun _ _ _ h => h) (v := ?v4c) (Or.inl ⟨?hw4c, ?hy4c⟩) (by assumption) ?rest4c
                  case hi4c => ((iterate 4 (refine oq_next ?_)); exact oq_here)
                  case hw4c => rfl
                  case hy4c => intro w hSw; (try dsimp only at hSw); go_simp; try (with_reducible rfl)
                  try simp only [Act.put, List.setIfInBounds_toArray, List.set_cons_zero, List.set_cons_succ]
                  refine wpAnyH_take (i := 5) (oi := ?oi5c) ?hi5c (by kernel_rfl) (by kernel_rfl) (by kernel_rfl) (fun _ _ _ h => h) (v := ?v5c) (Or.inl ⟨?hw5c, ?hy5c⟩) (by assumption) ?rest5c
                  case hi5c => ((iterate 5 (refine oq_next ?_)); exact oq_here)
                  case hw5c => rfl
                  case hy5c => intro w hSw; (try dsimp only at hSw); go_simp; try (with_reducible rfl)
                  try simp only [Act.put, List.setIfInBounds_toArray, List.set_cons_zero, List.set_cons_succ]
                  refine wpAnyH_take (i := 6) (oi := ?oi6c) ?hi6c (by kernel_rfl) (by kernel_rfl) (by kernel_rfl) (fun _ _ _ h => h) (v := ?v6c) (Or.inl ⟨?hw6c, ?hy6c⟩) (by assumption) ?rest6c
                  case hi6c => ((iterate 6 (refine oq_next ?_)); exact oq_here)
                  case hw6c => rfl
                  case hy6c => intro w hSw; (try dsimp only at hSw); go_simp; try (with_reducible rfl)
                  try simp only [Act.put, List.setIfInBounds_toArray, List.set_cons_zero, List.set_cons_succ]
                  refine wpAnyH_take (i := 7) (oi := ?oi7c) ?hi7c (by kernel_rfl) (by kernel_rfl) (by kernel_rfl) (fun _ _ _ h => h) (v := ?v7c) (Or.inl ⟨?hw7c, ?hy7c⟩) (by assumption) ?rest7c
                  case hi7c => ((iterate 7 (refine oq_next ?_)); exact oq_here)
                  case hw7c => rfl
                  case hy7c => intro w hSw; (try dsimp only at hSw); go_simp; try (with_reducible rfl)
                  try simp only [Act.put, List.setIfInBounds_toArray, List.set_cons_zero, List.set_cons_succ]
                  refine wpAnyH_take (i := 8) (oi := ?oi8c) ?hi8c (by kernel_rfl) (by kernel_rfl) (by kernel_rfl) (fun _ _ _ h => h) (v := ?v8c) (Or.inl ⟨?hw8c, ?hy8c⟩) (by assumption) ?rest8c
                  case hi8c => ((iterate 8 (refine oq_next ?_)); exact oq_here)
                  case hw8c => rfl
                  case hy8c => intro w hSw; (try dsimp only at hSw); go_simp; try (with_reducible rfl)
                  try simp only [Act.put, List.setIfInBounds_toArray, List.set_cons_zero, List.set_cons_succ]
                  refine wpAnyH_take (i := 9) (oi := ?oi9c) ?hi9c (by kernel_rfl) (by kernel_rfl) (by kernel_rfl) (fun _ _ _ h => h) (v := ?v9c) (Or.inl ⟨?hw9c, ?hy9c⟩) (by assumption) ?rest9c
                  case hi9c => ((iterate 9 (refine oq_next ?_)); exact oq_here)
                  case hw9c => rfl
                  case hy9c => intro w hSw; (try dsimp only at hSw); go_simp; try (with_reducible rfl)
                  try simp only [Act.put, List.setIfInBounds_toArray, List.set_cons_zero, List.set_cons_succ]
                  refine wpAnyH_take (i := 10) (oi := ?oi10c) ?hi10c (by kernel_rfl) (by kernel_rfl) (by kernel_rfl) (fun _ _ _ h => h) (v := ?v10c) (Or.inl ⟨?hw10c, ?hy10c⟩) (by assumption) ?rest10c
                  case hi10c => ((iterate 10 (refine oq_next ?_)); exact oq_here)
                  case hw10c => rfl
                  case hy10c => intro w hSw; (try dsimp only at hSw); go_simp; try (with_reducible rfl)
                  try simp only [Act.put, List.setIfInBounds_toArray, List.set_cons_zero, List.set_cons_succ]
                  refine wpAnyH_take (i := 11) (oi := ?oi11c) ?hi11c (by kernel_rfl) (by kernel_rfl) (by kernel_rfl) (fun _ _ _ h => h) (v := ?v11c) (Or.inl ⟨?hw11c, ?hy11c⟩) (by assumption) ?rest11c
                  case hi11c => ((iterate 11 (refine oq_next ?_)); exact oq_here)
                  case hw11c => rfl
                  case hy11c => intro w hSw; (try dsimp only at hSw); go_simp; try (with_reducible rfl)
                  try simp only [Act.put, List.setIfInBounds_toArray, List.set_cons_zero, List.set_cons_succ]
                  refine wpAnyH_take (i := 12) (oi := ?oi12c) ?hi12c (by kernel_rfl) (by kernel_rfl) (by kernel_rfl) (fun _ _ _ h => h) (Or.inr ⟨?hw12c, rfl⟩) (by assumption) ?rest12c
                  case hi12c => ((iterate 12 (refine oq_next ?_)); exact oq_here)
                  case hw12c => rfl
                  try simp only [Act.put, List.setIfInBounds_toArray, List.set_cons_zero, List.set_cons_succ]
                  refine wpAnyH_take (i := 13) (oi := ?oi13c) ?hi13c (by kernel_rfl) (by kernel_rfl) (by kernel_rfl) (fun _ _ _ h => h) (Or.inr ⟨?hw13c, rfl⟩) (by assumption) ?rest13c
                  case hi13c => ((iterate 13 (refine oq_next ?_)); exact oq_here)
                  case hw13c => rfl
                  try simp only [Act.put, List.setIfInBounds_toArray, List.set_cons_zero, List.set_cons_succ]
                  refine wpAnyH_take (i := 14) (oi := ?oi14c) ?hi14c (by kernel_rfl) (by kernel_rfl) (by kernel_rfl) (fun _ _ _ h => h) (Or.inr ⟨?hw14c, rfl⟩) (by assumption) ?rest14c
                  case hi14c => ((iterate 14 (refine oq_next ?_)); exact oq_here)
                  case hw14c => rfl
                  try simp only [Act.put, List.setIfInBounds_toArray, List.set_cons_zero, List.set_cons_succ]
                  refine wpAnyH_take (i := 15) (oi := ?oi15c) ?hi15c (by kernel_rfl) (by kernel_rfl) (by kernel_rfl) (fun _ _ _ h => h) (Or.inr ⟨?hw15c, rfl⟩) (by assumption) ?rest15c
                  case hi15c => ((iterate 15 (refine oq_next ?_)); exact oq_here)
                  case hw15c => rfl
                  try simp only [Act.put, List.setIfInBounds_toArray, List.set_cons_zero, List.set_cons_succ]
                  refine wpAnyH_take (i := 16) (oi := ?oi16c) ?hi16c (by kernel_rfl) (by kernel_rfl) (by kernel_rfl) (fun _ _ _ h => h) (Or.inr ⟨?hw16c, rfl⟩) (by assumption) ?rest16c
                  case hi16c => ((iterate 16 (refine oq_next ?_)); exact oq_here)
                  case hw16c => rfl
                  try simp only [Act.put, List.setIfInBounds_toArray, List.set_cons_zero, List.set_cons_succ]
                  refine wpAnyH_take (i := 17) (oi := ?oi17c) ?hi17c (by kernel_rfl) (by kernel_rfl) (by kernel_rfl) (fun _ _ _ h => h) (Or.inr ⟨?hw17c, rfl⟩) (by assumption) ?rest17c
                  case hi17c => ((iterate 17 (refine oq_next ?_)); exact oq_here)
                  case hw17c => rfl
                  try simp only [Act.put, List.setIfInBounds_toArray, List.set_cons_zero, List.set_cons_succ]
                  refine wpAnyH_take (i := 18) (oi := ?oi18c) ?hi18c (by kernel_rfl) (by kernel_rfl) (by kernel_rfl) (fun _ _ _ h => h) (v := ?v18c) (Or.inl ⟨?hw18c, ?hy18c⟩) (by assumption) ?rest18c
                  case hi18c => ((iterate 18 (refine oq_next ?_)); exact oq_here)
                  case hw18c => rfl
                  case hy18c => intro w hSw; (try dsimp only at hSw); go_simp; try (with_reducible rfl)
                  try simp only [Act.put, List.setIfInBounds_toArray, List.set_cons_zero, List.set_cons_succ]
                  refine wpAnyH_done (by kernel_rfl) ?_ _
                  refine NoPanic.normal ?_
                  have hzz := (H7.out.1.block _ (heap_lt HZz.out)).trans HZz.out
                  have z0 : w7.cell? ⟨w.heap.size, 0, none⟩ = some (.int .i64 0) := by simp [World.cell?, hzz, rrep]
                  have z1 : w7.cell? ⟨w.heap.size, 1, none⟩ = some (.int .i64 0) := by simp [World.cell?, hzz, rrep]
                  have z2 : w7.cell? ⟨w.heap.size, 2, none⟩ = some (.int .i64 0) := by simp [World.cell?, hzz, rrep]
                  have z3 : w7.cell? ⟨w.heap.size, 3, none⟩ = some (.int .i64 0) := by simp [World.cell?, hzz, rrep]
                  have z4 : w7.cell? ⟨w.heap.size, 4, none⟩ = some (.int .i64 0) := by simp [World.cell?, hzz, rrep]
                  have z5 : w7.cell? ⟨w.heap.size, 5, none⟩ = some (.int .i64 0) := by simp [World.cell?, hzz, rrep]
                  have y0 : w7.frozen? ⟨w.heap.size, 0, none⟩ = false := by simp [World.frozen?, hzz, rrep]
                  have y1 : w7.frozen? ⟨w.heap.size, 1, none⟩ = false := by simp [World.frozen?, hzz, rrep]
                  have y2 : w7.frozen? ⟨w.heap.size, 2, none⟩ = false := by simp [World.frozen?, hzz, rrep]
                  have y3 : w7.frozen? ⟨w.heap.size, 3, none⟩ = false := by simp [World.frozen?, hzz, rrep]
                  have y4 : w7.frozen? ⟨w.heap.size, 4, none⟩ = false := by simp [World.frozen?, hzz, rrep]
                  have y5 : w7.frozen? ⟨w.heap.size, 5, none⟩ = false := by simp [World.frozen?, hzz, rrep]
                  have zl := heap_lt hzz
                  have HB7 := Lib.hid (HBW.out.trans (H7.out.1.mono HBW.out.size))
                  clear hzz
                  go_wp2_with fail
                  have hv : S.auditV (portsN L) (chk L).1 = ((0, 0, 0, 0, (q0, q1)), 42) := by
                    have h1 := step_bad (q0, q1) HR.out.n hop HBD.out
                    rw [← HSN.out] at h1
                    have h2 := S.firstBad_pre (r := l.drop (k + 1)) h1
                    rw [List.take_append_drop] at h2
                    unfold Wir.auditV
                    rw [if_neg (by simp [HZ.out]), HAG.out, HPL.out, h2]
                  rw [HR0.out]
                  refine bodyPost_ret (v := .tuple #[.agg #[.int .i64 (0), .int .i64 (0), .int .i64 (0), .int .i64 (0), .int .i64 (q0), .int .i64 (q1)], .int .i64 (42)]) (by simp only [results, Try.results102]; go_simp) rfl ?_
                  refine ⟨by rw [hv]; rfl, ?_⟩
                  refine Below.drew ?_
                  iterate 6 (refine Below.setCell ?_ (by (try simp) <;> omega) _)
                  exact HB7.out
              · have HBD : Hid (S.isBad (q0, q1) = true) := by show _ = _; simp [Wir.isBad, HTE.out, k1]
                have hnb : (te != 0) = true := by simpa using k1
                clear k1
                go_wp2_with fail
                refine (rw_word B A S FA wr q0 q1 (HKP.out _ (Below.refl _ _)).1).mono ?_
                rintro e w4 ⟨rfl, hb4⟩
                rw [HV.out]
                have HB4 := Lib.hid hb4
                obtain ⟨_, _, a0, a1, ab⟩ := HKP.out _ hb4
                clear hb4 pz0 pz1 pb
                simp only []
                go_wp2_with fail
                refine (rw_to B A S FA w4 q0 q1 (HKP.out _ HB4.out).1).mono ?_
                rintro e w5 ⟨rfl, hb5⟩
                rw [HTE.out]
                have HB5 := Lib.hid (HB4.out.trans (hb5.mono HB4.out.size))
                clear hb5 a0 a1 ab
                simp only []
                go_upto_region 16 with fail
                obtain ⟨bq, hbq⟩ : ∃ bq, w5.heap.size = bq := ⟨_, rfl⟩
                refine absW (fun X => Hid (Below wr.heap.size wr X ∧ X.heap[w5.heap.size]? = some (.cells #[.int .i64 (S.toP (q0, q1)).1, .int .i64 (S.toP (q0, q1)).2] 39 (0, 0)))) (Lib.hid ⟨HB5.out.alloc HB5.out.size _, heap_alloc_new _ _⟩) ?_
                intro X HX
                rw [hbq] at HX ⊢
                obtain ⟨⟨r0, r1⟩, hr⟩ : ∃ r, S.toP (q0, q1) = r := ⟨_, rfl⟩
                rw [hr] at HX
                have HRr := Lib.hid hr
                clear hr hbq
                have hx0 : X.cell? ⟨bq, 0, none⟩ = some (.int .i64 r0) := by simp [World.cell?, HX.out.2]
                have hx1 : X.cell? ⟨bq, 1, none⟩ = some (.int .i64 r1) := by simp [World.cell?, HX.out.2]
                have hxl := heap_lt HX.out.2
                go_wp2_with fail
                refine (rw_word B A S FA X r0 r1 (HKP.out _ HX.out.1).1).mono ?_
                rintro e w6 ⟨rfl, hb6⟩
                have H6 : Hid (Below wr.heap.size wr w6 ∧ w6.heap[bq]? = some (.cells #[.int .i64 r0, .int .i64 r1] 39 (0, 0))) := ⟨HX.out.1.trans (hb6.mono HX.out.1.size), (hb6.block _ hxl).trans HX.out.2⟩
                obtain ⟨_, _, a0, a1, ab⟩ := HKP.out _ H6.out.1
                clear hb6 hx0 hx1 hxl
                simp only []
                go_wp2_with fail
                refine (pack_anyR q0 q1 w6).mono ?_
                rintro e w7 ⟨rfl, hb7⟩
                have H7 : Hid (Below wr.heap.size wr w7 ∧ w7.heap[bq]? = some (.cells #[.int .i64 r0, .int .i64 r1] 39 (0, 0))) := ⟨H6.out.1.trans (hb7.mono H6.out.1.size), (hb7.block _ (heap_lt H6.out.2)).trans H6.out.2⟩
                clear hb7 a0 a1 ab
                obtain ⟨_, hr7, a0, a1, ab⟩ := HKP.out _ H7.out.1
                have b0 : w7.cell? ⟨bq, 0, none⟩ = some (.int .i64 r0) := by simp [World.cell?, H7.out.2]
                have b1 : w7.cell? ⟨bq, 1, none⟩ = some (.int .i64 r1) := by simp [World.cell?, H7.out.2]
                have bl := heap_lt H7.out.2
                have HRW := Lib.hid hr7
                clear hr7
                generalize S.wV (r0, r1) = vv
                generalize S.wE (r0, r1) = fe
                generalize pkE q0 q1 = pe
                generalize pkW q0 q1 = own
                go_upto_region 18 with fail
                refine wp_region_noPanic ?_
                refine wp_region_held_drew (S := fun Y => Y.cell? ⟨bq, 0, none⟩ = some (.int .i64 r0) ∧ Y.cell? ⟨bq, 1, none⟩ = some (.int .i64 r1) ∧ Y.cell? ⟨b, k * 2, none⟩ = some (.int .i64 q0) ∧ Y.cell? ⟨b, k * 2 + 1, none⟩ = some (.int .i64 q1)) (by kernel_rfl) ⟨b0, b1, a0, a1⟩ (fun hHeld => ?_)
                refine wpAnyH_take (i := 0) (oi := ?oi0d) ?hi0d (by kernel_rfl) (by kernel_rfl) (by kernel_rfl) (fun _ _ _ h => h) (v := ?v0d) (Or.inl ⟨?hw0d, ?hy0d⟩) (by assumption) ?rest0d
                case hi0d => ((iterate 0 (refine oq_next ?_)); exact oq_here)
                case hw0d => rfl
                case hy0d => intro w hSw; (try dsimp only at hSw); go_simp; try (with_reducible rfl)
                try simp only [Act.put, List.setIfInBounds_toArray, List.set_cons_zero, List.set_cons_succ]
                refine wpAnyH_take (i := 1) (oi := ?oi1d) ?hi1d (by kernel_rfl) (by kernel_rfl) (by kernel_rfl) (fun _ _ _ h => h) (v := ?v1d) (Or.inl ⟨?hw1d, ?hy1d⟩) (by assumption) ?rest1d
                case hi1d => ((iterate 1 (refine oq_next ?_)); exact oq_here)
                case hw1d => rfl
                case hy1d => intro w hSw; (try dsimp only at hSw); go_simp; try (with_reducible rfl)
                try simp only [Act.put, List.setIfInBounds_toArray, List.set_cons_zero, List.set_cons_succ]
                refine wpAnyH_take (i := 2) (oi := ?oi2d) ?hi2d (by kernel_rfl) (by kernel_rfl) (by kernel_rfl) (fun _ _ _ h => h) (v := ?v2d) (Or.inl ⟨?hw2d, ?hy2d⟩) (by assumption) ?rest2d
                case hi2d => ((iterate 2 (refine oq_next ?_)); exact oq_here)
                case hw2d => rfl
                case hy2d => intro w hSw; (try dsimp only at hSw); go_simp; try (with_reducible rfl)
                try simp only [Act.put, List.setIfInBounds_toArray, List.set_cons_zero, List.set_cons_succ]
                refine wpAnyH_take (i := 3) (oi := ?oi3d) ?hi3d (by kernel_rfl) (by kernel_rfl) (by kernel_rfl) (fun _ _ _ h => h) (Or.inr ⟨?hw3d, rfl⟩) (by assumption) ?rest3d
                case hi3d => ((iterate 3 (refine oq_next ?_)); exact oq_here)
                case hw3d => rfl
                try simp only [Act.put, List.setIfInBounds_toArray, List.set_cons_zero, List.set_cons_succ]
                refine wpAnyH_take (i := 4) (oi := ?oi4d) ?hi4d (by kernel_rfl) (by kernel_rfl) (by kernel_rfl) (fun _ _ _ h => h) (Or.inr ⟨?hw4d, rfl⟩) (by assumption) ?rest4d
                case hi4d => ((iterate 4 (refine oq_next ?_)); exact oq_here)
                case hw4d => rfl
                try simp only [Act.put, List.setIfInBounds_toArray, List.set_cons_zero, List.set_cons_succ]
                refine wpAnyH_take (i := 5) (oi := ?oi5d) ?hi5d (by kernel_rfl) (by kernel_rfl) (by kernel_rfl) (fun _ _ _ h => h) (v := ?v5d) (Or.inl ⟨?hw5d, ?hy5d⟩) (by assumption) ?rest5d
                case hi5d => ((iterate 5 (refine oq_next ?_)); exact oq_here)
                case hw5d => rfl
                case hy5d => intro w hSw; (try dsimp only at hSw); go_simp; try (with_reducible rfl)
                try simp only [Act.put, List.setIfInBounds_toArray, List.set_cons_zero, List.set_cons_succ]
                refine wpAnyH_take (i := 6) (oi := ?oi6d) ?hi6d (by kernel_rfl) (by kernel_rfl) (by kernel_rfl) (fun _ _ _ h => h) (v := ?v6d) (Or.inl ⟨?hw6d, ?hy6d⟩) (by assumption) ?rest6d
                case hi6d => ((iterate 6 (refine oq_next ?_)); exact oq_here)
                case hw6d => rfl
                case hy6d => intro w hSw; (try dsimp only at hSw); go_simp; try (with_reducible rfl)
                try simp only [Act.put, List.setIfInBounds_toArray, List.set_cons_zero, List.set_cons_succ]
                refine wpAnyH_take (i := 7) (oi := ?oi7d) ?hi7d (by kernel_rfl) (by kernel_rfl) (by kernel_rfl) (fun _ _ _ h => h) (Or.inr ⟨?hw7d, rfl⟩) (by assumption) ?rest7d
                case hi7d => ((iterate 7 (refine oq_next ?_)); exact oq_here)
                case hw7d => rfl
                try simp only [Act.put, List.setIfInBounds_toArray, List.set_cons_zero, List.set_cons_succ]
                refine wpAnyH_take (i := 8) (oi := ?oi8d) ?hi8d (by kernel_rfl) (by kernel_rfl) (by kernel_rfl) (fun _ _ _ h => h) (Or.inr ⟨?hw8d, rfl⟩) (by assumption) ?rest8d
                case hi8d => ((iterate 8 (refine oq_next ?_)); exact oq_here)
                case hw8d => rfl
                try simp only [Act.put, List.setIfInBounds_toArray, List.set_cons_zero, List.set_cons_succ]
                refine wpAnyH_take (i := 9) (oi := ?oi9d) ?hi9d (by kernel_rfl) (by kernel_rfl) (by kernel_rfl) (fun _ _ _ h => h) (Or.inr ⟨?hw9d, rfl⟩) (by assumption) ?rest9d
                case hi9d => ((iterate 9 (refine oq_next ?_)); exact oq_here)
                case hw9d => rfl
                try simp only [Act.put, List.setIfInBounds_toArray, List.set_cons_zero, List.set_cons_succ]
                refine wpAnyH_take (i := 10) (oi := ?oi10d) ?hi10d (by kernel_rfl) (by kernel_rfl) (by kernel_rfl) (fun _ _ _ h => h) (v := ?v10d) (Or.inl ⟨?hw10d, ?hy10d⟩) (by assumption) ?rest10d
                case hi10d => ((iterate 10 (refine oq_next ?_)); exact oq_here)
                case hw10d => rfl
                case hy10d => intro w hSw; (try dsimp only at hSw); go_simp; try (with_reducible rfl)
                try simp only [Act.put, List.setIfInBounds_toArray, List.set_cons_zero, List.set_cons_succ]
                refine wpAnyH_take (i := 11) (oi := ?oi11d) ?hi11d (by kernel_rfl) (by kernel_rfl) (by kernel_rfl) (fun _ _ _ h => h) (v := ?v11d) (Or.inl ⟨?hw11d, ?hy11d⟩) (by assumption) ?rest11d
                case hi11d => ((iterate 11 (refine oq_next ?_)); exact oq_here)
                case hw11d => rfl
                case hy11d => intro w hSw; (try dsimp only at hSw); go_simp; try (with_reducible rfl)
                try simp only [Act.put, List.setIfInBounds_toArray, List.set_cons_zero, List.set_cons_succ]
                refine wpAnyH_take (i := 12) (oi := ?oi12d) ?hi12d (by kernel_rfl) (by kernel_rfl) (by kernel_rfl) (fun _ _ _ h => h) (Or.inr ⟨?hw12d, rfl⟩) (by assumption) ?rest12d
                case hi12d => ((iterate 12 (refine oq_next ?_)); exact oq_here)
                case hw12d => rfl
                try simp only [Act.put, List.setIfInBounds_toArray, List.set_cons_zero, List.set_cons_succ]
                refine wpAnyH_take (i := 13) (oi := ?oi13d) ?hi13d (by kernel_rfl) (by kernel_rfl) (by kernel_rfl) (fun _ _ _ h => h) (Or.inr ⟨?hw13d, rfl⟩) (by assumption) ?rest13d
                case hi13d => ((iterate 13 (refine oq_next ?_)); exact oq_here)
                case hw13d => rfl
                try simp only [Act.put, List.setIfInBounds_toArray, List.set_cons_zero, List.set_cons_succ]
                refine wpAnyH_take (i := 14) (oi := ?oi14d) ?hi14d (by kernel_rfl) (by kernel_rfl) (by kernel_rfl) (fun _ _ _ h => h) (Or.inr ⟨?hw14d, rfl⟩) (by assumption) ?rest14d
                case hi14d => ((iterate 14 (refine oq_next ?_)); exact oq_here)
                case hw14d => rfl
                try simp only [Act.put, List.setIfInBounds_toArray, List.set_cons_zero, List.set_cons_succ]
                refine wpAnyH_take (i := 15) (oi := ?oi15d) ?hi15d (by kernel_rfl) (by kernel_rfl) (by kernel_rfl) (fun _ _ _ h => h) (Or.inr ⟨?hw15d, rfl⟩) (by assumption) ?rest15d
                case hi15d => ((iterate 15 (refine oq_next ?_)); exact oq_here)
                case hw15d => rfl
                try simp only [Act.put, List.setIfInBounds_toArray, List.set_cons_zero, List.set_cons_succ]
                refine wpAnyH_take (i := 16) (oi := ?oi16d) ?hi16d (by kernel_rfl) (by kernel_rfl) (by kernel_rfl) (fun _ _ _ h => h) (Or.inr ⟨?hw16d, rfl⟩) (by assumption) ?rest16d
                case hi16d => ((iterate 16 (refine oq_next ?_)); exact oq_here)
                case hw16d => rfl
                try simp only [Act.put, List.setIfInBounds_toArray, List.set_cons_zero, List.set_cons_succ]
                refine wpAnyH_take (i := 17) (oi := ?oi17d) ?hi17d (by kernel_rfl) (by kernel_rfl) (by kernel_rfl) (fun _ _ _ h => h) (Or.inr ⟨?hw17d, rfl⟩) (by assumption) ?rest17d
                case hi17d => ((iterate 17 (refine oq_next ?_)); exact oq_here)
                case hw17d => rfl
                try simp only [Act.put, List.setIfInBounds_toArray, List.set_cons_zero, List.set_cons_succ]
                refine wpAnyH_take (i := 18) (oi := ?oi18d) ?hi18d (by kernel_rfl) (by kernel_rfl) (by kernel_rfl) (fun _ _ _ h => h) (v := ?v18d) (Or.inl ⟨?hw18d, ?hy18d⟩) (by assumption) ?rest18d
                case hi18d => ((iterate 18 (refine oq_next ?_)); exact oq_here)
                case hw18d => rfl
                case hy18d => intro w hSw; (try dsimp only at hSw); go_simp; try (with_reducible rfl)
                try simp only [Act.put, List.setIfInBounds_toArray, List.set_cons_zero, List.set_cons_succ]
                refine wpAnyH_done (by kernel_rfl) ?_ _
                refine NoPanic.normal ?_
                have hzz := (H7.out.1.block _ (heap_lt HZz.out)).trans HZz.out
                have z0 : w7.cell? ⟨w.heap.size, 0, none⟩ = some (.int .i64 0) := by simp [World.cell?, hzz, rrep]
                have z1 : w7.cell? ⟨w.heap.size, 1, none⟩ = some (.int .i64 0) := by simp [World.cell?, hzz, rrep]
                have z2 : w7.cell? ⟨w.heap.size, 2, none⟩ = some (.int .i64 0) := by simp [World.cell?, hzz, rrep]
                have z3 : w7.cell? ⟨w.heap.size, 3, none⟩ = some (.int .i64 0) := by simp [World.cell?, hzz, rrep]
                have z4 : w7.cell? ⟨w.heap.size, 4, none⟩ = some (.int .i64 0) := by simp [World.cell?, hzz, rrep]
                have z5 : w7.cell? ⟨w.heap.size, 5, none⟩ = some (.int .i64 0) := by simp [World.cell?, hzz, rrep]
                have y0 : w7.frozen? ⟨w.heap.size, 0, none⟩ = false := by simp [World.frozen?, hzz, rrep]
                have y1 : w7.frozen? ⟨w.heap.size, 1, none⟩ = false := by simp [World.frozen?, hzz, rrep]
                have y2 : w7.frozen? ⟨w.heap.size, 2, none⟩ = false := by simp [World.frozen?, hzz, rrep]
                have y3 : w7.frozen? ⟨w.heap.size, 3, none⟩ = false := by simp [World.frozen?, hzz, rrep]
                have y4 : w7.frozen? ⟨w.heap.size, 4, none⟩ = false := by simp [World.frozen?, hzz, rrep]
                have y5 : w7.frozen? ⟨w.heap.size, 5, none⟩ = false := by simp [World.frozen?, hzz, rrep]
                have zl := heap_lt hzz
                have HB7 := Lib.hid (HBW.out.trans (H7.out.1.mono HBW.out.size))
                clear hzz
                go_wp2_with fail
                have hv : S.auditV (portsN L) (chk L).1 = ((0, 0, 0, 0, (q0, q1)), 42) := by
                  have h1 := step_bad (q0, q1) HR.out.n hop HBD.out
                  rw [← HSN.out] at h1
                  have h2 := S.firstBad_pre (r := l.drop (k + 1)) h1
                  rw [List.take_append_drop] at h2
                  unfold Wir.auditV
                  rw [if_neg (by simp [HZ.out]), HAG.out, HPL.out, h2]
                rw [HR0.out]
                refine bodyPost_ret (v := .tuple #[.agg #[.int .i64 (0), .int .i64 (0), .int .i64 (0), .int .i64 (0), .int .i64 (q0), .int .i64 (q1)], .int .i64 (42)]) (by simp only [results, Try.results102]; go_simp) rfl ?_
                refine ⟨by rw [hv]; rfl, ?_⟩
                refine Below.drew ?_
                iterate 6 (refine Below.setCell ?_ (by (try simp) <;> omega) _)
                exact HB7.out
            · have hwv : S.wV (q0, q1) = 4294967295 := by simpa [Wir.isOpen] using hop
              have HWV := Lib.hid hwv
              clear hwv
              go_wp2_with (go_at_call 67; refine (rw_word B A S FA _ q0 q1 (HKP.out _ (by (repeat (first | exact Below.refl _ _ | (with_reducible refine Below.drew ?_) | (with_reducible refine Below.alloc ?_ (by (try simp); (try omega)) _) | (with_reducible refine Below.setCell ?_ (by (try simp); (try omega)) _) | (with_reducible refine Below.trans ?_ (Below.mono (by assumption) (by (try simp); (try omega)))))))).1).mono ?_
                           rintro e w4 ⟨rfl, hb4⟩
                           rw [HWV.out]
                           have hr4 := (HKP.out _ hb4).2.1
                           have o0 : w4.cell? ⟨br, 3, none⟩ = some (.int .i64 o) := (by simp [World.cell?, hr4, rrep])
                           have of : w4.frozen? ⟨br, 3, none⟩ = false := (by simp [World.frozen?, hr4, rrep])
                           have ol := heap_lt hr4
                           have HB4 := Lib.hid hb4
                           clear hb4 hr4)
              go_roundw
              case measure => simp [intOf]; omega
              case rel => exact ⟨k + 1, by go_num, by omega, by rw [HSN.out, ← HXO.out.2]; exact HR.out.open1 HB4.out (q0, q1) hop⟩
          · obtain rfl : k = l.length := by omega
            have hta : l.take l.length = l := List.take_length
            rw [hta] at HR
            have hrr := HR.out.r
            have HV : Hid (S.auditV (portsN L) (chk L).1 = ((lv, (np : Int), ((S.nWire l / 2 : Nat) : Int), (S.nOpen l : Int), (0, 0)), 0)) := by
              show _ = _
              unfold Wir.auditV; rw [if_neg (by simp [HZ.out]), HAG.out, HPL.out, HR.out.n, HLN.out.1, HLN.out.2]
            have hpm := S.nWire_le l
            have HRK := Lib.hid HR.out.k
            obtain ⟨nw, hnw⟩ : ∃ nw, S.nWire l = nw := ⟨_, rfl⟩
            obtain ⟨no, hno⟩ : ∃ no, S.nOpen l = no := ⟨_, rfl⟩
            rw [hnw, hno] at HV hrr
            have hnl : nw ≤ 30000 := by omega
            have hzz := (HR.out.k.block _ (heap_lt H3.out.1.z) (by have := H3.out.1.n.1; simp; omega)).trans H3.out.1.z
            clear hpm hnw hno HR hta
            have z0 : wr.cell? ⟨w.heap.size, 0, none⟩ = some (.int .i64 0) := by simp [World.cell?, hzz, rrep]
            have z1 : wr.cell? ⟨w.heap.size, 1, none⟩ = some (.int .i64 0) := by simp [World.cell?, hzz, rrep]
            have z2 : wr.cell? ⟨w.heap.size, 2, none⟩ = some (.int .i64 0) := by simp [World.cell?, hzz, rrep]
            have z3 : wr.cell? ⟨w.heap.size, 3, none⟩ = some (.int .i64 0) := by simp [World.cell?, hzz, rrep]
            have z4 : wr.cell? ⟨w.heap.size, 4, none⟩ = some (.int .i64 0) := by simp [World.cell?, hzz, rrep]
            have z5 : wr.cell? ⟨w.heap.size, 5, none⟩ = some (.int .i64 0) := by simp [World.cell?, hzz, rrep]
            have y0 : wr.frozen? ⟨w.heap.size, 0, none⟩ = false := by simp [World.frozen?, hzz, rrep]
            have y1 : wr.frozen? ⟨w.heap.size, 1, none⟩ = false := by simp [World.frozen?, hzz, rrep]
            have y2 : wr.frozen? ⟨w.heap.size, 2, none⟩ = false := by simp [World.frozen?, hzz, rrep]
            have y3 : wr.frozen? ⟨w.heap.size, 3, none⟩ = false := by simp [World.frozen?, hzz, rrep]
            have y4 : wr.frozen? ⟨w.heap.size, 4, none⟩ = false := by simp [World.frozen?, hzz, rrep]
            have y5 : wr.frozen? ⟨w.heap.size, 5, none⟩ = false := by simp [World.frozen?, hzz, rrep]
            have zl := heap_lt hzz
            have b0 : wr.cell? ⟨br, 0, none⟩ = some (.int .i64 lv) := by simp [World.cell?, hrr, rrep]
            have b1 : wr.cell? ⟨br, 1, none⟩ = some (.int .i64 np) := by simp [World.cell?, hrr, rrep]
            have b2 : wr.cell? ⟨br, 2, none⟩ = some (.int .i64 nw) := by simp [World.cell?, hrr, rrep]
            have b3 : wr.cell? ⟨br, 3, none⟩ = some (.int .i64 no) := by simp [World.cell?, hrr, rrep]
            have b4 : wr.cell? ⟨br, 4, none⟩ = some (.int .i64 0) := by simp [World.cell?, hrr, rrep]
            have b5 : wr.cell? ⟨br, 5, none⟩ = some (.int .i64 0) := by simp [World.cell?, hrr, rrep]
            have bf : wr.frozen? ⟨br, 2, none⟩ = false := by simp [World.frozen?, hrr, rrep]
            have bl := heap_lt hrr
            have hbb : br ≠ w.heap.size := by have := H3.out.1.n.1; omega
            have eq2 : (nw : Int).tdiv 2 = ((nw / 2 : Nat) : Int) := by simp
            have ew2 : IntKind.i64.wrap ((nw / 2 : Nat) : Int) = ((nw / 2 : Nat) : Int) := IntWalk.i64_in _ (by omega)
            clear hzz hrr
            go_wp2_with fail
            have hv := HV.out
            rw [HR0.out]
            refine bodyPost_ret (v := .tuple #[.agg #[.int .i64 (lv), .int .i64 ((np : Int)), .int .i64 (((nw / 2 : Nat) : Int)), .int .i64 ((no : Int)), .int .i64 (0), .int .i64 (0)], .int .i64 (0)]) (by simp only [results, Try.results102]; go_simp) rfl ?_
            refine ⟨by rw [hv]; rfl, ?_⟩
            iterate 6 (refine Below.setCell ?_ (by (try simp) <;> omega) _)
            refine Below.setCell ?_ (by have := H3.out.1.n.1; simp; omega) _
            exact H3.out.1.b.trans (HRK.out.below H3.out.1.b.size (by have := H3.out.1.n.1; simp; omega))
  · have HZ := Lib.hid hz
    have hzb : ((chk L).1 != 0) = true := by simpa using hz
    obtain ⟨ck, hck⟩ : ∃ ck, (chk L).1 = ck := ⟨_, rfl⟩
    have HCK := Lib.hid hck
    rw [hck] at hzb
    clear hz hck
    go_enter Try.func102, Try.ntmps102
    go_wp2_with (go_at_call 103
                 refine (rcheck_any As _ cap L _ rfl hl hcap (Lib.hid (HLz.out _ (by (repeat (first | exact Below.refl _ _ | (with_reducible refine Below.drew ?_) | (with_reducible refine Below.alloc ?_ (by (try simp); (try omega)) _) | (with_reducible refine Below.setCell ?_ (by (try simp); (try omega)) _) | (with_reducible refine Below.trans ?_ (Below.mono (by assumption) (by (try simp); (try omega)))))))))).mono ?_
                 rintro e w1 ⟨rfl, hb1⟩
                 rw [HCK.out]
                 have r0 : w1.heap[w.heap.size]? = some (rrep 0 0 0 0) := (hb1.block w.heap.size (by simp)).trans (heap_alloc_new w _)
                 have HB1 : Hid (Below w.heap.size w w1) := (by show Below _ _ _; (repeat (first | exact Below.refl _ _ | (with_reducible refine Below.drew ?_) | (with_reducible refine Below.alloc ?_ (by (try simp); (try omega)) _) | (with_reducible refine Below.setCell ?_ (by (try simp); (try omega)) _) | (with_reducible refine Below.trans ?_ (Below.mono (by assumption) (by (try simp); (try omega)))))))
                 have z0 : w1.cell? ⟨w.heap.size, 0, none⟩ = some (.int .i64 0) := by simp [World.cell?, r0, rrep]
                 have z1 : w1.cell? ⟨w.heap.size, 1, none⟩ = some (.int .i64 0) := by simp [World.cell?, r0, rrep]
                 have z2 : w1.cell? ⟨w.heap.size, 2, none⟩ = some (.int .i64 0) := by simp [World.cell?, r0, rrep]
                 have z3 : w1.cell? ⟨w.heap.size, 3, none⟩ = some (.int .i64 0) := by simp [World.cell?, r0, rrep]
                 have z4 : w1.cell? ⟨w.heap.size, 4, none⟩ = some (.int .i64 0) := by simp [World.cell?, r0, rrep]
                 have z5 : w1.cell? ⟨w.heap.size, 5, none⟩ = some (.int .i64 0) := by simp [World.cell?, r0, rrep]
                 have y0 : w1.frozen? ⟨w.heap.size, 0, none⟩ = false := by simp [World.frozen?, r0, rrep]
                 have y1 : w1.frozen? ⟨w.heap.size, 1, none⟩ = false := by simp [World.frozen?, r0, rrep]
                 have y2 : w1.frozen? ⟨w.heap.size, 2, none⟩ = false := by simp [World.frozen?, r0, rrep]
                 have y3 : w1.frozen? ⟨w.heap.size, 3, none⟩ = false := by simp [World.frozen?, r0, rrep]
                 have y4 : w1.frozen? ⟨w.heap.size, 4, none⟩ = false := by simp [World.frozen?, r0, rrep]
                 have y5 : w1.frozen? ⟨w.heap.size, 5, none⟩ = false := by simp [World.frozen?, r0, rrep]
                 have q0 := heap_lt r0
                 clear r0 hb1)
    have hv : S.auditV (portsN L) (chk L).1 = ((0, 0, 0, 0, (0, 0)), ck) := by unfold Wir.auditV; rw [if_pos HZ.out, HCK.out]
    rw [HR0.out]
    refine bodyPost_ret (v := .tuple #[.agg #[.int .i64 (0), .int .i64 (0), .int .i64 (0), .int .i64 (0), .int .i64 (0), .int .i64 (0)], .int .i64 (ck)]) (by simp only [results, Try.results102]; go_simp) rfl ?_
    refine ⟨by rw [hv]; rfl, ?_⟩
    iterate 6 (refine Below.setCell ?_ (by (try simp) <;> omega) _)
    exact HB1.out
end
end Go.Proofs.Ythbobooiedcofaa
