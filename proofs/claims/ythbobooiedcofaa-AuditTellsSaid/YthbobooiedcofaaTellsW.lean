/-
  The statement AuditTells: its walk.
-/
import Derived.Test.YthbobooiedcofaaTellsPlain
import Derived.Test.YthbobooiedcofaaOpen10
import Derived.Deep.RegionHeld3
namespace Go.Proofs.Ythbobooiedcofaa
open Go.RowKit
attribute [local go_sem] cell_set
set_option maxRecDepth 100000
set_option linter.unusedVariables false

section
variable (A : Option Addr) (n cap : Nat) (L : List (ByteArray × Int)) (VA VB : Option Addr) (ca cb : Nat) (cells : List Int) (fr : Int) (W : List (Pt × Pt)) (VC : Option Addr) (nl cl : Nat) (C : List Chg) (w : World)
set_option maxHeartbeats 4000000 in
theorem tells_law (hn : n = L.length) (hcap : L.length ≤ cap) (HL : Hid (AgRd w A L)) (hl : L.length ≤ maxLen) (HC : Hid (IntsRd w VA cells)) (HW : Hid (WrRd w VB W)) (hc : cells.length ≤ maxLen) (hw : W.length ≤ maxLen) (hnl : nl = C.length) (HZ : Hid (ChR w VC C)) (hcl : C.length ≤ maxLen) :
    Calls Try.prog 8 #[.slice A n cap, netV VA ca cells fr VB cb W, .slice VC nl cl] w fun e w' => e = .returned (.bool true) ∧ Below w.heap.size w w' := by
  subst hn hnl
  unfold netV
  have hbA : ∀ o : Obj, Below w.heap.size w (w.alloc o) := fun o => (Below.refl _ _).alloc (Nat.le_refl _) o
  unfold maxLen at hc hw hcl
  have hl' := hl
  unfold maxLen at hl'
  have done : ∀ o : Obj, True := fun _ => trivial
  by_cases c1 : 1024 < L.length
  · go_enter Try.func8, Try.ntmps8
    go_wp2_with fail
    refine (works10 _).mono ?_
    rintro e w2 ⟨rfl, hb2⟩
    have HB2 := Lib.hid ((hbA _).trans (hb2.mono (hbA _).size))
    clear hb2
    go_wp2_with fail
    go_ret
    exact ⟨rfl, HB2.out⟩
  · have HSz : Hid (∀ Z, Below w.heap.size w Z → Calls Try.prog 45 #[.slice A L.length cap] Z (SomeI Z)) := fun Z hz => size_agents A _ cap L Z rfl (by simp only [maxLen]; omega) (Lib.hid (HL.out.below hz))
    go_enter Try.func8, Try.ntmps8
    go_wp2_with fail
    refine (HSz.out _ (hbA _)).mono ?_
    rintro e w1 ⟨m, rfl, rfl⟩
    go_wp2_with fail
    refine (long_is m _).mono ?_
    rintro e w1 ⟨rfl, rfl⟩
    by_cases c2 : 2147483647 < m
    · have d2 : decide (2147483647 < m) = true := by simpa using c2
      rw [d2]
      go_wp2_with fail
      refine (works10 _).mono ?_
      rintro e w2 ⟨rfl, hb2⟩
      have HB2 := Lib.hid ((hbA _).trans (hb2.mono (hbA _).size))
      clear hb2
      go_wp2_with fail
      go_ret
      exact ⟨rfl, HB2.out⟩
    · have d2 : decide (2147483647 < m) = false := by simpa using c2
      rw [d2]
      clear d2 c2 HSz
      by_cases c3 : 8192 < cells.length
      · go_wp2_with fail
        refine (works10 _).mono ?_
        rintro e w2 ⟨rfl, hb2⟩
        have HB2 := Lib.hid ((hbA _).trans (hb2.mono (hbA _).size))
        clear hb2
        go_wp2_with fail
        go_ret
        exact ⟨rfl, HB2.out⟩
      · by_cases c4 : 32768 < W.length
        · go_wp2_with fail
          refine (works10 _).mono ?_
          rintro e w2 ⟨rfl, hb2⟩
          have HB2 := Lib.hid ((hbA _).trans (hb2.mono (hbA _).size))
          clear hb2
          go_wp2_with fail
          go_ret
          exact ⟨rfl, HB2.out⟩
        · by_cases c5 : 100 < C.length
          · go_wp2_with fail
            refine (works10 _).mono ?_
            rintro e w2 ⟨rfl, hb2⟩
            have HB2 := Lib.hid ((hbA _).trans (hb2.mono (hbA _).size))
            clear hb2
            go_wp2_with fail
            go_ret
            exact ⟨rfl, HB2.out⟩
          · go_upto_region 3 with fail
            have HLz : Hid (∀ X, Below w.heap.size w X → AgRd X A L) := fun X h => HL.out.below h
            have HCz : Hid (∀ X, Below w.heap.size w X → IntsRd X VA cells) := fun X h => HC.out.below h
            have HWz : Hid (∀ X, Below w.heap.size w X → WrRd X VB W) := fun X h => HW.out.below h
            have HZz : Hid (∀ X, Below w.heap.size w X → ChR X VC C) := fun X h => HZ.out.below h
            refine absW (fun X => Hid (Below w.heap.size w X ∧ NBox X w.heap.size VA cells.length ca fr VB W.length cb)) (Lib.hid ⟨hbA _, nbox_at w _ _ _ _ _ _ _⟩) ?_
            intro X HX
            have HCp : Hid (∀ Y, Below X.heap.size X Y → Calls Try.prog 34 #[.slice A L.length cap] Y fun e w' => ∃ V c, e = .returned (.slice V L.length c) ∧ Fresh Y w' 89 2 L.length (.slice V L.length c) (agvals L)) := fun Y hb => copy_agents A cap L Y (HLz.out _ (HX.out.1.trans (hb.mono HX.out.1.size))) (by omega)
            have HCn : Hid (∀ Y, Below X.heap.size X Y → Calls Try.prog 46 #[.agg #[.slice VA cells.length ca, .int .i64 fr, .slice VB W.length cb]] Y fun e w' => ∃ VA' ca' VB' cb', e = .returned (.agg #[.slice VA' cells.length ca', .int .i64 fr, .slice VB' W.length cb']) ∧ IntsRd w' VA' cells ∧ WrRd w' VB' W ∧ cells.length ≤ ca' ∧ W.length ≤ cb' ∧ Below Y.heap.size Y w') := fun Y hb => copy_net VA VB ca cb cells fr W Y (by omega) (by omega) (Lib.hid (HCz.out _ (HX.out.1.trans (hb.mono HX.out.1.size)))) (Lib.hid (HWz.out _ (HX.out.1.trans (hb.mono HX.out.1.size))))
            have HLd : Hid (∀ Y V c VA' ca' VB' cb', L.length ≤ c → AgRd Y V L → IntsRd Y VA' cells → WrRd Y VB' W → Calls Try.prog 30 #[.slice V L.length c, .agg #[.slice VA' cells.length ca', .int .i64 fr, .slice VB' W.length cb'], .int .i64 4096] Y fun e w' => (loadE L cells fr W 4096 ≠ 0 ∧ LdBad Y (loadE L cells fr W 4096) e w') ∨ (loadE L cells fr W 4096 = 0 ∧ ∃ B A', e = .returned (.tuple #[.pointer (some ⟨B, 0, none⟩), .int .i64 0]) ∧ OW Y B A' ((Wir.new (tookA (4096 : Int).toNat (arL L) cells) fr.toNat).linkAll (tidyW (allPs (pnL L) cells fr.toNat) W)) w')) := fun Y V c VA' ca' VB' cb' hcl ha hi hwr =>
              load_is V _ c L VA' VB' ca' cb' cells fr W 4096 Y rfl hcl (Lib.hid ha) hl (Lib.hid hi) (Lib.hid hwr) (by omega) (by omega)
            have hkp : ∀ Y, Below X.heap.size X Y → Y.cell? ⟨w.heap.size, 0, none⟩ = some (.slice VA cells.length ca) ∧ Y.cell? ⟨w.heap.size, 1, none⟩ = some (.int .i64 fr) ∧ Y.cell? ⟨w.heap.size, 2, none⟩ = some (.slice VB W.length cb) := fun Y hb => by
              have h1 := HX.out.2.below hb
              exact ⟨h1.c0, h1.c1, h1.c2⟩
            have HKP := Lib.hid hkp
            have hxl : w.heap.size < X.heap.size := HX.out.2.lt
            clear hkp
            have HLq := HLd
            clear HLd
            by_cases he : loadE L cells fr W 4096 = 0
            · have HE := Lib.hid he
              have HLd : Hid (∀ Y V c VA' ca' VB' cb', Below X.heap.size X Y → L.length ≤ c → AgRd Y V L → IntsRd Y VA' cells → WrRd Y VB' W → Calls Try.prog 30 #[.slice V L.length c, .agg #[.slice VA' cells.length ca', .int .i64 fr, .slice VB' W.length cb'], .int .i64 4096] Y fun e w' => ∃ B A', e = .returned (.tuple #[.pointer (some ⟨B, 0, none⟩), .int .i64 0]) ∧ OW Y B A' ((Wir.new (tookA (4096 : Int).toNat (arL L) cells) fr.toNat).linkAll (tidyW (allPs (pnL L) cells fr.toNat) W)) w') := fun Y V c VA' ca' VB' cb' hb hcl ha hi hwr => (HLq.out Y V c VA' ca' VB' cb' hcl ha hi hwr).mono fun e w' h => by
                rcases h with ⟨h0, _⟩ | ⟨_, h⟩
                · exact absurd HE.out h0
                · exact h
              clear he HLq
              go_region_held3 (fun Y => Y.cell? ⟨w.heap.size, 0, none⟩ = some (.slice VA cells.length ca) ∧ Y.cell? ⟨w.heap.size, 1, none⟩ = some (.int .i64 fr) ∧ Y.cell? ⟨w.heap.size, 2, none⟩ = some (.slice VB W.length cb))
                (first | exact HKP.out _ hb5 | exact HKP.out _ hb4 | exact HKP.out _ hb3 | exact HKP.out _ (by (repeat (first | exact Below.refl _ _ | (with_reducible refine Below.drew ?_) | (with_reducible refine Below.alloc ?_ (by (try simp); (try omega)) _) | (with_reducible refine Below.setCell ?_ (by (try simp); (try omega)) _) | (with_reducible refine Below.trans ?_ (Below.mono (by assumption) (by (try simp); (try omega))))))))
                (first
                  | ((with_reducible refine (HCp.out _ (by (repeat (first | exact Below.refl _ _ | (with_reducible refine Below.drew ?_) | (with_reducible refine Below.alloc ?_ (by (try simp); (try omega)) _) | (with_reducible refine Below.setCell ?_ (by (try simp); (try omega)) _) | (with_reducible refine Below.trans ?_ (Below.mono (by assumption) (by (try simp); (try omega)))))))).mono ?_); rintro e w3 ⟨V3, c3, rfl, hf3⟩; dsimp only
                     have hb3 : Below X.heap.size X w3 := (by have := hf3.2.2; (repeat (first | exact Below.refl _ _ | (with_reducible refine Below.drew ?_) | (with_reducible refine Below.alloc ?_ (by (try simp); (try omega)) _) | (with_reducible refine Below.setCell ?_ (by (try simp); (try omega)) _) | (with_reducible refine Below.trans ?_ (Below.mono (by assumption) (by (try simp); (try omega)))))))
                     have HA3 := Lib.hid (And.intro (Row.agents hf3.1) (hf3.1.len)))
                  | ((with_reducible refine (HCn.out _ hb3).mono ?_); rintro e w4 ⟨V4, c4, V5, c5, rfl, hi4, hw4, hx4, hx5, hf4⟩; dsimp only
                     have hb4 : Below X.heap.size X w4 := hb3.trans (hf4.mono hb3.size)
                     have HN4 := Lib.hid (And.intro hi4 (And.intro hw4 (HA3.out.1.below hf4)))
                     clear hi4 hw4 hx4 hx5)
                  | ((with_reducible refine (HLd.out _ _ _ _ _ _ _ hb4 (by obtain ⟨_, _, h, hle⟩ := HA3.out.2; injection h with _ _ h; omega) HN4.out.2.2 HN4.out.1 HN4.out.2.1).mono ?_); rintro e w5 ⟨B, A', rfl, ho5⟩; dsimp only; have hb5 : Below X.heap.size X w5 := hb4.trans (ho5.b.mono hb4.size); have HO5 := Lib.hid ho5; clear ho5))
              all_goals
                have HB5 := Lib.hid (And.intro (HX.out.1.trans (hb5.mono HX.out.1.size)) (And.intro (HX.out.2.below hb5) (HO5.out.from (HX.out.1.trans (hb4.mono HX.out.1.size)))))
                clear hb5 hb4 hb3 HN4 HA3 hf3 hf4 HCp HCn HLd HKP hxl HO5
                obtain ⟨hnl, n0, n1, n2⟩ := HB5.out.2.1
                obtain ⟨hk0, _, _, _⟩ := loadE_ok HE.out
                obtain ⟨hz, hc4, hf0, hf64, hag, hok⟩ := netChk_ok hk0
                obtain ⟨f, rfl⟩ := Int.eq_ofNat_of_zero_le hf0
                have hok' : NetOk (pnL L) cells f W := hok
                have hsame := load_same (chk_sig hz) hag hok' (m := 4096) (f := f) (by omega) (by omega) (by omega) (by omega)
                have HSM := Lib.hid hsame
                clear hz hag hok hok' hk0 hsame hf0 hc4 hf64
                go_wp2_with fail
                refine (rload_is A _ cap L VA VB ca cb cells (f : Int) W 4096 w5 rfl hcap (Lib.hid (HLz.out _ HB5.out.1)) hl (Lib.hid (HCz.out _ HB5.out.1)) (Lib.hid (HWz.out _ HB5.out.1)) (by omega) (by omega)).mono ?_
                rintro e w6 (⟨h0, _⟩ | ⟨_, R, Q, rfl, hox⟩)
                · exact absurd HE.out h0
                have htw := tw_of (X := []) HB5.out.2.2 hox (fun b hb => absurd hb (by simp))
                have e1 : ((f : Int)).toNat = f := Int.toNat_natCast f
                have e2 : ((4096 : Int)).toNat = 4096 := rfl
                rw [e1, e2, HSM.out] at htw
                obtain ⟨S, hS⟩ : ∃ S, (Wir.new (tookA 4096 (arL L) cells) f).linkAll W = S := ⟨_, rfl⟩
                rw [hS] at htw
                have HT := Lib.hid htw
                clear htw hox hS n0 n1 n2 hnl HB5 e1 e2
                simp only []
                go_wp2_with fail
                go_loopw [11] (fun i wr => ∃ j : Nat, ∃ S, i = .int .i64 j ∧ j ≤ C.length ∧ Hid (TW w [] B A' R Q S S wr)) (fun i _ => C.length - (intOf i).toNat)
                case atStart => exact ⟨0, S, rfl, Nat.zero_le _, HT⟩
                case round =>
                  obtain ⟨j, S, rfl, hj, HJ⟩ := hrel
                  clear HT
                  by_cases hlt : j < C.length
                  · obtain ⟨bb, off, rfl, hbb, p0, p1, p2, p3⟩ := HZz.out _ HJ.out.bel j hlt
                    obtain ⟨⟨how, ⟨pc, ps⟩, ⟨v, hv⟩⟩, hx⟩ : ∃ x, C.getD j default = x := ⟨_, rfl⟩
                    rw [hx] at p0 p1 p2 p3
                    dsimp only at p0 p1 p2 p3
                    clear hx
                    go_upto_region 13 with fail
                    refine absW (fun Y => Hid (TW w [wr.heap.size] B A' R Q S S Y ∧ Y.heap[wr.heap.size]? = some (.cells #[.int .i64 how, .int .i64 pc, .int .i64 ps, .int .u32 (v : Int)] 95 (0, 0)))) (Lib.hid ⟨HJ.out.alloc _, heap_alloc_new wr _⟩) ?_
                    intro X1 H1
                    generalize wr.heap.size = bx at H1 ⊢
                    have hh1 := H1.out.2
                    have x0 : X1.cell? ⟨bx, 0, none⟩ = some (.int .i64 how) := by simp [World.cell?, hh1]
                    have x1 : X1.cell? ⟨bx, 1, none⟩ = some (.int .i64 pc) := by simp [World.cell?, hh1]
                    have x2 : X1.cell? ⟨bx, 2, none⟩ = some (.int .i64 ps) := by simp [World.cell?, hh1]
                    have x3 : X1.cell? ⟨bx, 3, none⟩ = some (.int .u32 (v : Int)) := by simp [World.cell?, hh1]
                    have xl := heap_lt hh1
                    have hv' : (0 : Int) ≤ (v : Int) ∧ (v : Int) < 4294967296 := by omega
                    have HAr : Hid (∀ Y, Below X1.heap.size X1 Y → Calls Try.prog 15 #[.pointer (some ⟨B, 0, none⟩)] Y fun e w' => e = .returned (.pointer (some ⟨A', 0, none⟩)) ∧ Y = w') := fun Y hb => tw_arena (H1.out.1.kept hb)
                    have HBx : Hid (∀ Y, KQ [bx] X1 Y → Y.cell? ⟨bx, 0, none⟩ = some (.int .i64 how) ∧ Y.cell? ⟨bx, 1, none⟩ = some (.int .i64 pc) ∧ Y.cell? ⟨bx, 2, none⟩ = some (.int .i64 ps) ∧ Y.cell? ⟨bx, 3, none⟩ = some (.int .u32 (v : Int))) := fun Y hk => by
                      have hc := (hk.box (b := bx) (by simp)).1
                      exact ⟨(hc 0).trans x0, (hc 1).trans x1, (hc 2).trans x2, (hc 3).trans x3⟩
                    clear p0 p1 p2 p3 hbb hh1
                    by_cases k0 : how = 0
                    · subst k0
                      have HPu : Hid (∀ Y, Below X1.heap.size X1 Y → Calls Try.prog 47 #[.pointer (some ⟨A', 0, none⟩), .int .i64 pc, .int .i64 ps, .int .u32 (v : Int)] Y fun e w' => (∃ r, e = .returned r) ∧ TW w [bx] B A' R Q { S with A := S.A.put pc ps v } S w' ∧ KQ [bx] X1 w') := fun Y hb => (tw_put_l (H1.out.1.kept hb) pc ps v hv').mono fun e w' ⟨he, h1, h2⟩ => ⟨he, h1, (H1.out.1.kq hb).trans h2⟩
                      go_upto_region 15 with fail
                      go_region_held3 (fun Y => Y.cell? ⟨bx, 1, none⟩ = some (.int .i64 pc) ∧ Y.cell? ⟨bx, 2, none⟩ = some (.int .i64 ps) ∧ Y.cell? ⟨bx, 3, none⟩ = some (.int .u32 (v : Int)))
                        (first | exact (HBx.out _ hq).2 | exact ⟨x1, x2, x3⟩)
                        (first
                          | ((with_reducible refine (HAr.out _ (by (repeat (first | (with_reducible exact Below.refl _ _) | (with_reducible assumption) | (with_reducible refine Below.drew ?_) | (with_reducible refine Below.alloc ?_ (by (try simp); (try omega)) _) | (with_reducible refine Below.setCell ?_ (by (try simp); (try omega)) _))))).mono ?_); rintro e w7 ⟨rfl, rfl⟩; dsimp only)
                          | ((with_reducible refine (HPu.out _ (by (repeat (first | (with_reducible exact Below.refl _ _) | (with_reducible assumption) | (with_reducible refine Below.drew ?_) | (with_reducible refine Below.alloc ?_ (by (try simp); (try omega)) _) | (with_reducible refine Below.setCell ?_ (by (try simp); (try omega)) _))))).mono ?_); rintro e w8 ⟨⟨r, rfl⟩, ht, hq⟩; dsimp only))
                      all_goals
                        have H8 := Lib.hid (And.intro ht hq)
                        obtain ⟨rc0, _, rcl⟩ := H8.out.1.rcell
                        obtain ⟨w0', w1', w2', w3'⟩ := HBx.out _ H8.out.2
                        have bxl : bx < w8.heap.size := Nat.lt_of_lt_of_le xl H8.out.2.size
                        clear ht hq x0 x1 x2 x3 xl
                        have HPr : Hid (∀ Y, Below w8.heap.size w8 Y → Calls Try.prog 48 #[.pointer (some ⟨Q, 0, none⟩), .int .i64 pc, .int .i64 ps, .int .u32 (v : Int)] Y fun e w' => (∃ r, e = .returned r) ∧ TW w [bx] B A' R Q { S with A := S.A.put pc ps v } { S with A := S.A.put pc ps v } w' ∧ KQ [bx] X1 w') := fun Y hb => (tw_put_r (H8.out.1.kept hb) pc ps v hv').mono fun e w' ⟨he, h1, h2⟩ => ⟨he, h1, (H8.out.2.trans (H8.out.1.kq hb)).trans h2⟩
                        go_upto_region 16 with fail
                        go_region_held3 (fun Y => (Y.cell? ⟨bx, 1, none⟩ = some (.int .i64 pc) ∧ Y.cell? ⟨bx, 2, none⟩ = some (.int .i64 ps) ∧ Y.cell? ⟨bx, 3, none⟩ = some (.int .u32 (v : Int))) ∧ Y.cell? ⟨R, 0, none⟩ = some (.pointer (some ⟨Q, 0, none⟩)))
                          (first | exact ⟨(HBx.out _ hq).2, ht.rcell.1⟩ | exact ⟨⟨w1', w2', w3'⟩, rc0⟩)
                          (first
                            | ((with_reducible refine (HPr.out _ (by (repeat (first | (with_reducible exact Below.refl _ _) | (with_reducible assumption) | (with_reducible refine Below.drew ?_) | (with_reducible refine Below.alloc ?_ (by (try simp); (try omega)) _) | (with_reducible refine Below.setCell ?_ (by (try simp); (try omega)) _))))).mono ?_); rintro e w9 ⟨⟨r, rfl⟩, ht, hq⟩; dsimp only))
                        have HT9 := Lib.hid ht
                        clear ht hq rc0 rcl w0' w1' w2' w3' bxl HPr HPu HAr
                        go_wp2_with fail
                        refine (tells_is (HT9.out.kept (by (repeat (first | exact Below.refl _ _ | (with_reducible refine Below.drew ?_) | (with_reducible refine Below.alloc ?_ (by (try simp); (try omega)) _) | (with_reducible refine Below.setCell ?_ (by (try simp); (try omega)) _) | (with_reducible refine Below.trans ?_ (Below.mono (by assumption) (by (try simp); (try omega)))))))) A _ cap L rfl hcap (Lib.hid (HLz.out _ (HT9.out.kept (by (repeat (first | exact Below.refl _ _ | (with_reducible refine Below.drew ?_) | (with_reducible refine Below.alloc ?_ (by (try simp); (try omega)) _) | (with_reducible refine Below.setCell ?_ (by (try simp); (try omega)) _) | (with_reducible refine Below.trans ?_ (Below.mono (by assumption) (by (try simp); (try omega)))))))).bel)) hl).mono ?_
                        rintro e w10 ⟨rfl, ht10, hb10⟩
                        have HT10 := Lib.hid (ht10.sub (Y := []) (by simp))
                        clear ht10 hb10
                        simp only []
                        go_wp2_with fail
                        go_roundw
                        case measure => simp [intOf]; omega
                        case rel => exact ⟨j + 1, _, by go_num, by omega, HT10.out⟩
                    · by_cases k1 : how = 1
                      · subst k1
                        have HPu : Hid (∀ Y, Below X1.heap.size X1 Y → Calls Try.prog 49 #[.pointer (some ⟨A', 0, none⟩), .int .i64 pc] Y fun e w' => (∃ r, e = .returned r) ∧ TW w [bx] B A' R Q { S with A := S.A.give pc } S w' ∧ KQ [bx] X1 w') := fun Y hb => (tw_give_l (H1.out.1.kept hb) pc).mono fun e w' ⟨he, h1, h2⟩ => ⟨he, h1, (H1.out.1.kq hb).trans h2⟩
                        go_upto_region 18 with fail
                        go_region_held3 (fun Y => Y.cell? ⟨bx, 1, none⟩ = some (.int .i64 pc) ∧ Y.cell? ⟨bx, 2, none⟩ = some (.int .i64 ps))
                          (first | exact ⟨(HBx.out _ hq).2.1, (HBx.out _ hq).2.2.1⟩ | exact ⟨x1, x2⟩)
                          (first
                            | ((with_reducible refine (HAr.out _ (by (repeat (first | (with_reducible exact Below.refl _ _) | (with_reducible assumption) | (with_reducible refine Below.drew ?_) | (with_reducible refine Below.alloc ?_ (by (try simp); (try omega)) _) | (with_reducible refine Below.setCell ?_ (by (try simp); (try omega)) _))))).mono ?_); rintro e w7 ⟨rfl, rfl⟩; dsimp only)
                            | ((with_reducible refine (HPu.out _ (by (repeat (first | (with_reducible exact Below.refl _ _) | (with_reducible assumption) | (with_reducible refine Below.drew ?_) | (with_reducible refine Below.alloc ?_ (by (try simp); (try omega)) _) | (with_reducible refine Below.setCell ?_ (by (try simp); (try omega)) _))))).mono ?_); rintro e w8 ⟨⟨r, rfl⟩, ht, hq⟩; dsimp only))
                        all_goals
                          have H8 := Lib.hid (And.intro ht hq)
                          obtain ⟨rc0, _, rcl⟩ := H8.out.1.rcell
                          obtain ⟨w0', w1', w2', w3'⟩ := HBx.out _ H8.out.2
                          have bxl : bx < w8.heap.size := Nat.lt_of_lt_of_le xl H8.out.2.size
                          clear ht hq x0 x1 x2 x3 xl
                          have HPr : Hid (∀ Y, Below w8.heap.size w8 Y → Calls Try.prog 50 #[.pointer (some ⟨Q, 0, none⟩), .int .i64 pc] Y fun e w' => (∃ r, e = .returned r) ∧ TW w [bx] B A' R Q { S with A := S.A.give pc } { S with A := S.A.give pc } w' ∧ KQ [bx] X1 w') := fun Y hb => (tw_give_r (H8.out.1.kept hb) pc).mono fun e w' ⟨he, h1, h2⟩ => ⟨he, h1, (H8.out.2.trans (H8.out.1.kq hb)).trans h2⟩
                          go_upto_region 19 with fail
                          go_region_held3 (fun Y => (Y.cell? ⟨bx, 1, none⟩ = some (.int .i64 pc) ∧ Y.cell? ⟨bx, 2, none⟩ = some (.int .i64 ps)) ∧ Y.cell? ⟨R, 0, none⟩ = some (.pointer (some ⟨Q, 0, none⟩)))
                            (first | exact ⟨⟨(HBx.out _ hq).2.1, (HBx.out _ hq).2.2.1⟩, ht.rcell.1⟩ | exact ⟨⟨w1', w2'⟩, rc0⟩)
                            (first
                              | ((with_reducible refine (HPr.out _ (by (repeat (first | (with_reducible exact Below.refl _ _) | (with_reducible assumption) | (with_reducible refine Below.drew ?_) | (with_reducible refine Below.alloc ?_ (by (try simp); (try omega)) _) | (with_reducible refine Below.setCell ?_ (by (try simp); (try omega)) _))))).mono ?_); rintro e w9 ⟨⟨r, rfl⟩, ht, hq⟩; dsimp only))
                          have HT9 := Lib.hid ht
                          clear ht hq rc0 rcl w0' w1' w2' w3' bxl HPr HPu HAr
                          go_wp2_with fail
                          refine (tells_is (HT9.out.kept (by (repeat (first | exact Below.refl _ _ | (with_reducible refine Below.drew ?_) | (with_reducible refine Below.alloc ?_ (by (try simp); (try omega)) _) | (with_reducible refine Below.setCell ?_ (by (try simp); (try omega)) _) | (with_reducible refine Below.trans ?_ (Below.mono (by assumption) (by (try simp); (try omega)))))))) A _ cap L rfl hcap (Lib.hid (HLz.out _ (HT9.out.kept (by (repeat (first | exact Below.refl _ _ | (with_reducible refine Below.drew ?_) | (with_reducible refine Below.alloc ?_ (by (try simp); (try omega)) _) | (with_reducible refine Below.setCell ?_ (by (try simp); (try omega)) _) | (with_reducible refine Below.trans ?_ (Below.mono (by assumption) (by (try simp); (try omega)))))))).bel)) hl).mono ?_
                          rintro e w10 ⟨rfl, ht10, hb10⟩
                          have HT10 := Lib.hid (ht10.sub (Y := []) (by simp))
                          clear ht10 hb10
                          simp only []
                          go_wp2_with fail
                          go_roundw
                          case measure => simp [intOf]; omega
                          case rel => exact ⟨j + 1, _, by go_num, by omega, HT10.out⟩
                      · by_cases k2 : how = 2
                        · subst k2
                          have HPu : Hid (∀ Y, Below X1.heap.size X1 Y → Calls Try.prog 51 #[.pointer (some ⟨A', 0, none⟩), .int .i64 pc, .int .i64 ps] Y fun e w' => (∃ r, e = .returned r) ∧ TW w [bx] B A' R Q (S.take pc ps) S w' ∧ KQ [bx] X1 w') := fun Y hb => (tw_take_l (H1.out.1.kept hb) pc ps).mono fun e w' ⟨he, h1, h2⟩ => ⟨⟨_, he⟩, h1, (H1.out.1.kq hb).trans h2⟩
                          go_upto_region 21 with fail
                          go_region_held3 (fun Y => Y.cell? ⟨bx, 1, none⟩ = some (.int .i64 pc) ∧ Y.cell? ⟨bx, 2, none⟩ = some (.int .i64 ps))
                            (first | exact ⟨(HBx.out _ hq).2.1, (HBx.out _ hq).2.2.1⟩ | exact ⟨x1, x2⟩)
                            (first
                              | ((with_reducible refine (HAr.out _ (by (repeat (first | (with_reducible exact Below.refl _ _) | (with_reducible assumption) | (with_reducible refine Below.drew ?_) | (with_reducible refine Below.alloc ?_ (by (try simp); (try omega)) _) | (with_reducible refine Below.setCell ?_ (by (try simp); (try omega)) _))))).mono ?_); rintro e w7 ⟨rfl, rfl⟩; dsimp only)
                              | ((with_reducible refine (HPu.out _ (by (repeat (first | (with_reducible exact Below.refl _ _) | (with_reducible assumption) | (with_reducible refine Below.drew ?_) | (with_reducible refine Below.alloc ?_ (by (try simp); (try omega)) _) | (with_reducible refine Below.setCell ?_ (by (try simp); (try omega)) _))))).mono ?_); rintro e w8 ⟨⟨r, rfl⟩, ht, hq⟩; dsimp only))
                          all_goals
                            have H8 := Lib.hid (And.intro ht hq)
                            obtain ⟨rc0, _, rcl⟩ := H8.out.1.rcell
                            obtain ⟨w0', w1', w2', w3'⟩ := HBx.out _ H8.out.2
                            have bxl : bx < w8.heap.size := Nat.lt_of_lt_of_le xl H8.out.2.size
                            clear ht hq x0 x1 x2 x3 xl
                            have HPr : Hid (∀ Y, Below w8.heap.size w8 Y → Calls Try.prog 52 #[.pointer (some ⟨Q, 0, none⟩), .int .i64 pc, .int .i64 ps] Y fun e w' => (∃ r, e = .returned r) ∧ TW w [bx] B A' R Q (S.take pc ps) (S.take pc ps) w' ∧ KQ [bx] X1 w') := fun Y hb => (tw_take_r (H8.out.1.kept hb) pc ps).mono fun e w' ⟨he, h1, h2⟩ => ⟨⟨_, he⟩, h1, (H8.out.2.trans (H8.out.1.kq hb)).trans h2⟩
                            go_upto_region 22 with fail
                            go_region_held3 (fun Y => (Y.cell? ⟨bx, 1, none⟩ = some (.int .i64 pc) ∧ Y.cell? ⟨bx, 2, none⟩ = some (.int .i64 ps)) ∧ Y.cell? ⟨R, 0, none⟩ = some (.pointer (some ⟨Q, 0, none⟩)))
                              (first | exact ⟨⟨(HBx.out _ hq).2.1, (HBx.out _ hq).2.2.1⟩, ht.rcell.1⟩ | exact ⟨⟨w1', w2'⟩, rc0⟩)
                              (first
                                | ((with_reducible refine (HPr.out _ (by (repeat (first | (with_reducible exact Below.refl _ _) | (with_reducible assumption) | (with_reducible refine Below.drew ?_) | (with_reducible refine Below.alloc ?_ (by (try simp); (try omega)) _) | (with_reducible refine Below.setCell ?_ (by (try simp); (try omega)) _))))).mono ?_); rintro e w9 ⟨⟨r, rfl⟩, ht, hq⟩; dsimp only))
                            have HT9 := Lib.hid ht
                            clear ht hq rc0 rcl w0' w1' w2' w3' bxl HPr HPu HAr
                            go_wp2_with fail
                            refine (tells_is (HT9.out.kept (by (repeat (first | exact Below.refl _ _ | (with_reducible refine Below.drew ?_) | (with_reducible refine Below.alloc ?_ (by (try simp); (try omega)) _) | (with_reducible refine Below.setCell ?_ (by (try simp); (try omega)) _) | (with_reducible refine Below.trans ?_ (Below.mono (by assumption) (by (try simp); (try omega)))))))) A _ cap L rfl hcap (Lib.hid (HLz.out _ (HT9.out.kept (by (repeat (first | exact Below.refl _ _ | (with_reducible refine Below.drew ?_) | (with_reducible refine Below.alloc ?_ (by (try simp); (try omega)) _) | (with_reducible refine Below.setCell ?_ (by (try simp); (try omega)) _) | (with_reducible refine Below.trans ?_ (Below.mono (by assumption) (by (try simp); (try omega)))))))).bel)) hl).mono ?_
                            rintro e w10 ⟨rfl, ht10, hb10⟩
                            have HT10 := Lib.hid (ht10.sub (Y := []) (by simp))
                            clear ht10 hb10
                            simp only []
                            go_wp2_with fail
                            go_roundw
                            case measure => simp [intOf]; omega
                            case rel => exact ⟨j + 1, _, by go_num, by omega, HT10.out⟩
                        · by_cases k3 : how = 3
                          · subst k3
                            by_cases kj : j = 0
                            · subst kj
                              go_wp2_with fail
                              refine (tw_cut_l H1.out.1 pc ps).mono ?_
                              rintro e w8 ⟨rfl, ht, hq⟩
                              have H8 := Lib.hid (And.intro ht hq)
                              obtain ⟨w0', w1', w2', w3'⟩ := HBx.out _ H8.out.2
                              have bxl : bx < w8.heap.size := Nat.lt_of_lt_of_le xl H8.out.2.size
                              clear ht hq x0 x1 x2 x3 xl HAr
                              simp only []
                              go_wp2_with fail
                              refine (tw_cut_r H8.out.1 pc ps).mono ?_
                              rintro e w9 ⟨rfl, ht, hq⟩
                              have HT9 := Lib.hid ht
                              clear ht hq w0' w1' w2' w3' bxl
                              simp only []
                              go_wp2_with fail
                              refine (tells_is (HT9.out.kept (by (repeat (first | exact Below.refl _ _ | (with_reducible refine Below.drew ?_) | (with_reducible refine Below.alloc ?_ (by (try simp); (try omega)) _) | (with_reducible refine Below.setCell ?_ (by (try simp); (try omega)) _) | (with_reducible refine Below.trans ?_ (Below.mono (by assumption) (by (try simp); (try omega)))))))) A _ cap L rfl hcap (Lib.hid (HLz.out _ (HT9.out.kept (by (repeat (first | exact Below.refl _ _ | (with_reducible refine Below.drew ?_) | (with_reducible refine Below.alloc ?_ (by (try simp); (try omega)) _) | (with_reducible refine Below.setCell ?_ (by (try simp); (try omega)) _) | (with_reducible refine Below.trans ?_ (Below.mono (by assumption) (by (try simp); (try omega)))))))).bel)) hl).mono ?_
                              rintro e w10 ⟨rfl, ht10, hb10⟩
                              have HT10 := Lib.hid (ht10.sub (Y := []) (by simp))
                              clear ht10 hb10
                              simp only []
                              go_wp2_with fail
                              go_roundw
                              case measure => simp [intOf]; omega
                              case rel => exact ⟨0 + 1, _, by go_num, by omega, HT10.out⟩
                            · have kjb : ((j : Int) == 0) = false := by simpa using kj
                              have HT9 := Lib.hid H1.out.1
                              go_wp2_with fail
                              refine (tells_is (HT9.out.kept (by (repeat (first | exact Below.refl _ _ | (with_reducible refine Below.drew ?_) | (with_reducible refine Below.alloc ?_ (by (try simp); (try omega)) _) | (with_reducible refine Below.setCell ?_ (by (try simp); (try omega)) _) | (with_reducible refine Below.trans ?_ (Below.mono (by assumption) (by (try simp); (try omega)))))))) A _ cap L rfl hcap (Lib.hid (HLz.out _ (HT9.out.kept (by (repeat (first | exact Below.refl _ _ | (with_reducible refine Below.drew ?_) | (with_reducible refine Below.alloc ?_ (by (try simp); (try omega)) _) | (with_reducible refine Below.setCell ?_ (by (try simp); (try omega)) _) | (with_reducible refine Below.trans ?_ (Below.mono (by assumption) (by (try simp); (try omega)))))))).bel)) hl).mono ?_
                              rintro e w10 ⟨rfl, ht10, hb10⟩
                              have HT10 := Lib.hid (ht10.sub (Y := []) (by simp))
                              clear ht10 hb10
                              simp only []
                              go_wp2_with fail
                              go_roundw
                              case measure => simp [intOf]; omega
                              case rel => exact ⟨j + 1, _, by go_num, by omega, HT10.out⟩
                          · have b0 : (how == 0) = false := by simpa using k0
                            have b1 : (how == 1) = false := by simpa using k1
                            have b2 : (how == 2) = false := by simpa using k2
                            have b3 : (how == 3) = false := by simpa using k3
                            have HT9 := Lib.hid H1.out.1
                            go_wp2_with fail
                            refine (tells_is (HT9.out.kept (by (repeat (first | exact Below.refl _ _ | (with_reducible refine Below.drew ?_) | (with_reducible refine Below.alloc ?_ (by (try simp); (try omega)) _) | (with_reducible refine Below.setCell ?_ (by (try simp); (try omega)) _) | (with_reducible refine Below.trans ?_ (Below.mono (by assumption) (by (try simp); (try omega)))))))) A _ cap L rfl hcap (Lib.hid (HLz.out _ (HT9.out.kept (by (repeat (first | exact Below.refl _ _ | (with_reducible refine Below.drew ?_) | (with_reducible refine Below.alloc ?_ (by (try simp); (try omega)) _) | (with_reducible refine Below.setCell ?_ (by (try simp); (try omega)) _) | (with_reducible refine Below.trans ?_ (Below.mono (by assumption) (by (try simp); (try omega)))))))).bel)) hl).mono ?_
                            rintro e w10 ⟨rfl, ht10, hb10⟩
                            have HT10 := Lib.hid (ht10.sub (Y := []) (by simp))
                            clear ht10 hb10
                            simp only []
                            go_wp2_with fail
                            go_roundw
                            case measure => simp [intOf]; omega
                            case rel => exact ⟨j + 1, _, by go_num, by omega, HT10.out⟩
                  · obtain rfl : j = C.length := by omega
                    obtain ⟨hk0, _, _, _⟩ := loadE_ok HE.out
                    obtain ⟨hz, _⟩ := netChk_ok hk0
                    have hpos : 0 < L.length := by
                      rcases Nat.eq_zero_or_pos L.length with h0 | h0
                      · unfold chk at hz
                        rw [if_pos h0] at hz
                        exact absurd hz (by decide)
                      · exact h0
                    have ew : IntKind.i64.wrap ((L.length : Int) - 1) = ((L.length - 1 : Nat) : Int) := by rw [IntWalk.i64_in _ (by omega)]; omega
                    clear hk0 hz
                    go_wp2_with fail
                    refine (tells_is HJ.out A _ cap L rfl hcap (Lib.hid (HLz.out _ HJ.out.bel)) hl).mono ?_
                    rintro e w10 ⟨rfl, ht10, hb10⟩
                    have HT10 := Lib.hid ht10
                    clear ht10 hb10
                    simp only []
                    go_wp2_with fail
                    refine (tells_is HT10.out A _ cap (L.take (L.length - 1)) (by rw [List.length_take]; omega) (by rw [List.length_take]; omega) (Lib.hid ((HLz.out _ HT10.out.bel).take _)) (by rw [List.length_take]; unfold maxLen; omega)).mono ?_
                    rintro e w11 ⟨rfl, ht11, hb11⟩
                    have HB11 := Lib.hid ht11.bel
                    clear ht11 hb11
                    simp only []
                    go_wp2_with fail
                    refine (works10 _).mono ?_
                    rintro e w12 ⟨rfl, hb12⟩
                    have HB12 := Lib.hid (HB11.out.trans (hb12.mono HB11.out.size))
                    clear hb12
                    simp only []
                    go_wp2_with fail
                    go_ret
                    exact ⟨rfl, HB12.out⟩
            · have HE := Lib.hid he
              have HLd : Hid (∀ Y V c VA' ca' VB' cb', Below X.heap.size X Y → L.length ≤ c → AgRd Y V L → IntsRd Y VA' cells → WrRd Y VB' W → Calls Try.prog 30 #[.slice V L.length c, .agg #[.slice VA' cells.length ca', .int .i64 fr, .slice VB' W.length cb'], .int .i64 4096] Y fun e w' => e = .returned (.tuple #[.pointer none, .int .i64 (loadE L cells fr W 4096)]) ∧ Below Y.heap.size Y w') := fun Y V c VA' ca' VB' cb' hb hcl ha hi hwr => (HLq.out Y V c VA' ca' VB' cb' hcl ha hi hwr).mono fun e w' h => by
                rcases h with ⟨_, h⟩ | ⟨h0, _⟩
                · exact h
                · exact absurd h0 HE.out
              have hne : (loadE L cells fr W 4096 != 0) = true := by simpa using he
              obtain ⟨k, hk⟩ : ∃ k, loadE L cells fr W 4096 = k := ⟨_, rfl⟩
              rw [hk] at hne HLd
              have HK := Lib.hid hk
              clear he HLq hk
              go_region_held3 (fun Y => Y.cell? ⟨w.heap.size, 0, none⟩ = some (.slice VA cells.length ca) ∧ Y.cell? ⟨w.heap.size, 1, none⟩ = some (.int .i64 fr) ∧ Y.cell? ⟨w.heap.size, 2, none⟩ = some (.slice VB W.length cb))
                (first | exact HKP.out _ hb5 | exact HKP.out _ hb4 | exact HKP.out _ hb3 | exact HKP.out _ (by (repeat (first | exact Below.refl _ _ | (with_reducible refine Below.drew ?_) | (with_reducible refine Below.alloc ?_ (by (try simp); (try omega)) _) | (with_reducible refine Below.setCell ?_ (by (try simp); (try omega)) _) | (with_reducible refine Below.trans ?_ (Below.mono (by assumption) (by (try simp); (try omega))))))))
                (first
                  | ((with_reducible refine (HCp.out _ (by (repeat (first | exact Below.refl _ _ | (with_reducible refine Below.drew ?_) | (with_reducible refine Below.alloc ?_ (by (try simp); (try omega)) _) | (with_reducible refine Below.setCell ?_ (by (try simp); (try omega)) _) | (with_reducible refine Below.trans ?_ (Below.mono (by assumption) (by (try simp); (try omega)))))))).mono ?_); rintro e w3 ⟨V3, c3, rfl, hf3⟩; dsimp only
                     have hb3 : Below X.heap.size X w3 := (by have := hf3.2.2; (repeat (first | exact Below.refl _ _ | (with_reducible refine Below.drew ?_) | (with_reducible refine Below.alloc ?_ (by (try simp); (try omega)) _) | (with_reducible refine Below.setCell ?_ (by (try simp); (try omega)) _) | (with_reducible refine Below.trans ?_ (Below.mono (by assumption) (by (try simp); (try omega)))))))
                     have HA3 := Lib.hid (And.intro (Row.agents hf3.1) (hf3.1.len)))
                  | ((with_reducible refine (HCn.out _ hb3).mono ?_); rintro e w4 ⟨V4, c4, V5, c5, rfl, hi4, hw4, hx4, hx5, hf4⟩; dsimp only
                     have hb4 : Below X.heap.size X w4 := hb3.trans (hf4.mono hb3.size)
                     have HN4 := Lib.hid (And.intro hi4 (And.intro hw4 (HA3.out.1.below hf4)))
                     clear hi4 hw4 hx4 hx5)
                  | ((with_reducible refine (HLd.out _ _ _ _ _ _ _ hb4 (by obtain ⟨_, _, h, hle⟩ := HA3.out.2; injection h with _ _ h; omega) HN4.out.2.2 HN4.out.1 HN4.out.2.1).mono ?_); rintro e w5 ⟨rfl, ho5⟩; dsimp only; have hb5 : Below X.heap.size X w5 := hb4.trans (ho5.mono hb4.size); clear ho5))
              all_goals
                have HB5 := Lib.hid (And.intro (HX.out.1.trans (hb5.mono HX.out.1.size)) (HX.out.2.below hb5))
                clear hb5 hb4 hb3 HN4 HA3 hf3 hf4 HCp HCn HLd HKP hxl
                obtain ⟨hnl, n0, n1, n2⟩ := HB5.out.2
                go_wp2_with fail
                refine (rload_is A _ cap L VA VB ca cb cells fr W 4096 w5 rfl hcap (Lib.hid (HLz.out _ HB5.out.1)) hl (Lib.hid (HCz.out _ HB5.out.1)) (Lib.hid (HWz.out _ HB5.out.1)) (by omega) (by omega)).mono ?_
                rintro e w6 (⟨_, h6⟩ | ⟨h0, _⟩)
                · rw [HK.out] at h6
                  obtain ⟨rfl, hb6⟩ := h6
                  have HB6 := Lib.hid (HB5.out.1.trans (hb6.mono HB5.out.1.size))
                  clear hb6 n0 n1 n2 hnl HB5
                  simp only []
                  go_wp2_with fail
                  refine (works10 _).mono ?_
                  rintro e w7 ⟨rfl, hb7⟩
                  have HB7 := Lib.hid (HB6.out.trans (hb7.mono HB6.out.size))
                  clear hb7
                  go_wp2_with fail
                  go_ret
                  exact ⟨rfl, HB7.out⟩
                · exact absurd h0 HE.out
end
end Go.Proofs.Ythbobooiedcofaa
