/-
  The statement WalkApart: its loop over the ports.
-/
import Derived.Test.YtogbanlfihabpaaWaA
import Derived.Test.YtogbanlfihabpaaWalkSeq
import Derived.Test.YtogbanlfihabpaaNetIs
import Derived.Test.YtogbanlfihabpaaRef03A
import Derived.Deep.RegionHeld3
import Derived.Deep.LoopGhost
/-
  The statement WalkApart: its loop over what a walk found.
-/
namespace Go.Proofs.Ytogbanlfihabpaa
open Go.RowKit
attribute [local go_sem] cell_set
attribute [local go_sem] Oper.semAt_some
set_option maxRecDepth 100000
set_option linter.unusedVariables false
theorem nodup_take {l : List Int} (h : l.Nodup) {k : Nat} (hk : k < l.length) : l[k] ∉ l.take k := fun hm => by
  obtain ⟨j, hj, e⟩ := List.getElem_of_mem hm
  rw [List.length_take] at hj
  rw [List.getElem_take] at e
  exact List.pairwise_iff_getElem.1 h j k (by omega) hk (by omega) e
section
variable (Q : Exit → Act → World → Prop) (w : World) (b3 : Nat) (A VA VB V : Option Addr) (L : List (ByteArray × Int)) (n cap ca cb kp N : Nat) (cells : List Int) (f : Nat) (W : List (Pt × Pt)) (qs : List PV) (VP Vf : Option Addr) (M cP i i0 m kf g nc : Nat) (wl : List Int)
set_option maxHeartbeats 4000000 in
theorem wa_32 (a : Act) (Y X : World) (k : Nat) (hk : k ≤ m) (hm5 : m ≤ 100000) (hn5 : nc ≤ 100000) (hm : Hid (wl.length = m ∧ Fnd nc wl ∧ nc = cells.length))
    (hY : Hid (WaK w Y b3 A VA VB V L ca cb kp N cells f W qs ∧ IntsRd Y Vf wl ∧ Y.heap.size ≤ g))
    (HE : Hid (∀ c : Nat, (c : Int) ∈ wl → ∀ Z, WaK w Z b3 A VA VB V L ca cb kp N cells f W qs → Calls Try.prog 10 #[.slice V N kp, .agg #[.int .i64 (c : Int), .int .i64 0]] Z fun e w' => e = .returned (.int .i64 (i0 : Int)) ∧ Below Z.heap.size Z w'))
    (hI : Hid (Below Y.heap.size Y X ∧ Row X 4 1 (.slice (some ⟨g, 0, none⟩) nc nc) nc (seenB nc (wl.take k))))
    (hgo : Hid (∀ a' X', k < m → FrN 198 [] [(0, .slice A n cap), (3, .pointer (some ⟨b3, 0, none⟩)), (7, .slice V N kp), (14, .slice VP M cP), (15, .int .i64 (i : Int)), (16, .int .i64 (i0 : Int)), (17, .slice Vf m kf), (19, .slice (some ⟨g, 0, none⟩) nc nc), (20, .int .i64 ((k + 1 : Nat) : Int))] a' → Below Y.heap.size Y X' ∧ Row X' 4 1 (.slice (some ⟨g, 0, none⟩) nc nc) nc (seenB nc (wl.take (k + 1))) → Q .normal a' X'))
    (hout : Hid (∀ a' X', FrN 198 [] [(0, .slice A n cap), (3, .pointer (some ⟨b3, 0, none⟩)), (7, .slice V N kp), (14, .slice VP M cP), (15, .int .i64 (i : Int))] a' → Below Y.heap.size Y X' → Q (.exit 6) a' X'))
    (ha : FrN 198 [] [(0, .slice A n cap), (3, .pointer (some ⟨b3, 0, none⟩)), (7, .slice V N kp), (14, .slice VP M cP), (15, .int .i64 (i : Int)), (16, .int .i64 (i0 : Int)), (17, .slice Vf m kf), (19, .slice (some ⟨g, 0, none⟩) nc nc), (20, .int .i64 (k : Int))] a) : (waT 32).wp Try.prog Q a X := by
  obtain ⟨U, rfl, e0, e3, e7, e14, e15, e16, e17, e19, e20, -⟩ := ha.openWA
  unfold FrWA
  simp only [e0, e3, e7, e14, e15, e16, e17, e19, e20]
  clear e0 e3 e7 e14 e15 e16 e17 e19 e20 ha
  show (Code.seq _ _).wp _ _ _ _
  by_cases hlt : k < m
  · have hkm : (k : Int) < (m : Int) := by omega
    have HLT : Hid (k < m) := hlt
    have hkl : k < wl.length := by rw [hm.out.1]; exact hlt
    obtain ⟨bf, of, rfl, hbf, c0⟩ := (hY.out.2.1.below hI.out.1) k hkl
    have e : wl.getD k 0 = wl[k] := by simp [hkl]
    have HX : Hid (wl.take (k + 1) = wl.take k ++ [wl[k]'hkl]) := by
      show _ = _
      rw [List.take_add_one, List.getElem?_eq_getElem hkl]; rfl
    have hmem : (wl[k]'hkl) ∈ wl := List.getElem_mem hkl
    have hnot := nodup_take hm.out.2.1.nd hkl
    obtain ⟨hx0, hxn⟩ := hm.out.2.1.lt _ hmem
    rw [e] at c0
    generalize wl[k]'hkl = x at c0 HX hx0 hxn hmem hnot
    obtain ⟨y, rfl⟩ := Int.eq_ofNat_of_zero_le hx0
    have hyn : y < nc := by omega
    have hz0 : decide ((y : Int) < 0) = false := decide_eq_false (by omega)
    have hz1 : decide ((nc : Int) ≤ (y : Int)) = false := decide_eq_false (by omega)
    have hyn2 : (y : Int) < (nc : Int) := by omega
    have s1 : X.cell? ⟨g, y, none⟩ = some (.bool false) := by
      rw [(hI.out.2.cellAt y (by omega)).trans (seenB_at (wl.take k) hyn), decide_eq_false hnot]
    have HC := Lib.hid (HE.out y hmem X (hY.out.1.below hI.out.1))
    have hgl := hI.out.2.lt g (by simp [ownB])
    clear hlt hkl e hmem hnot hx0 hxn
    go_wp2_with fail
    refine HC.out.mono ?_
    rintro e w1 ⟨rfl, hb1⟩
    have HI1 : Hid (Below Y.heap.size Y w1 ∧ Row w1 4 1 (.slice (some ⟨g, 0, none⟩) nc nc) nc (seenB nc (wl.take k))) := ⟨hI.out.1.trans (hb1.mono hI.out.1.size), hI.out.2.keep fun b hb => hb1.block b (hI.out.2.lt b hb)⟩
    have s2 : w1.cell? ⟨g, y, none⟩ = some (.bool false) := (hb1.cell (p := ⟨g, y, none⟩) hgl).trans s1
    have s3 := HI1.out.2.frozenAt y
    have HS : Hid (Below Y.heap.size Y (w1.setCell ⟨g, y, none⟩ (.bool true)) ∧ Row (w1.setCell ⟨g, y, none⟩ (.bool true)) 4 1 (.slice (some ⟨g, 0, none⟩) nc nc) nc (seenB nc (wl.take (k + 1)))) := by
      refine ⟨HI1.out.1.setCell (p := ⟨g, y, none⟩) hY.out.2.2 _, ?_⟩
      have h1 := HI1.out.2.set y (.bool true)
      rw [← seenB_snoc] at h1
      rw [HX.out]; exact h1
    clear hb1 s1 c0 hbf
    simp only []
    repeat (first | go_values | go_skip | go_guarded | go_step | go_upon | go_back)
    exact hgo.out _ _ HLT.out ⟨rfl, rfl, rfl, rfl, rfl, rfl, rfl, rfl, rfl, rfl, rfl, trivial⟩ HS.out
  · obtain rfl : k = m := by omega
    have hkm : ¬ (k : Int) < (k : Int) := by omega
    clear hlt
    repeat (first | go_values | go_skip | go_guarded | go_step | go_upon | go_back)
    exact hout.out _ _ ⟨rfl, rfl, rfl, rfl, rfl, rfl, rfl, trivial⟩ hI.out.1
end
end Go.Proofs.Ytogbanlfihabpaa
namespace Go.Proofs.Ytogbanlfihabpaa
open Go.RowKit
attribute [local go_sem] cell_set
attribute [local go_sem] Oper.semAt_some
set_option maxRecDepth 100000
set_option linter.unusedVariables false
section
variable (Q : Exit → Act → World → Prop) (w : World) (b3 : Nat) (A VA VB V : Option Addr) (L : List (ByteArray × Int)) (n cap ca cb kp N : Nat) (cells : List Int) (f : Nat) (W : List (Pt × Pt)) (qs : List PV) (R : List Pa) (VP : Option Addr) (M cP : Nat)
set_option maxHeartbeats 8000000 in
theorem wa_24 (a : Act) (X : World) (i : Nat) (hi : i ≤ M) (hM5 : M ≤ 100000) (hn : n = L.length) (hL : L.length ≤ 100000) (hW5 : W.length ≤ 40000) (HP : Hid (WaP (pnL L) cells f W N qs R)) (hPl : Hid ((allPs (pnL L) cells f).length = M))
    (HF : Hid (∀ p, isPt (pnL L) cells f p = true → ∀ Z A' cap' VA' VB' ca' cb', L.length ≤ cap' → Rd Z A' VA' VB' L cells W → Calls Try.prog 12 #[.slice A' L.length cap', .agg #[.slice VA' cells.length ca', .int .i64 (f : Int), .slice VB' W.length cb'], .agg #[.int .i64 p.1, .int .i64 p.2]] Z (AnsF Z 0 (wlk (pnL L) cells (lkM W) p))))
    (HK : Hid (WaK w X b3 A VA VB V L ca cb kp N cells f W qs ∧ PtsRd X VP (allPs (pnL L) cells f)))
    (hgo : Hid (∀ a' X', i < M → FrN 198 [] [(0, .slice A n cap), (3, .pointer (some ⟨b3, 0, none⟩)), (7, .slice V N kp), (14, .slice VP M cP), (15, .int .i64 ((i + 1 : Nat) : Int))] a' → WaK w X' b3 A VA VB V L ca cb kp N cells f W qs ∧ PtsRd X' VP (allPs (pnL L) cells f) → Q .normal a' X'))
    (hout : Hid (∀ a' X', FrN 198 [] [(0, .slice A n cap), (3, .pointer (some ⟨b3, 0, none⟩)), (7, .slice V N kp), (14, .slice VP M cP)] a' → i = M → WaK w X' b3 A VA VB V L ca cb kp N cells f W qs → Q (.exit 4) a' X'))
    (ha : FrN 198 [] [(0, .slice A n cap), (3, .pointer (some ⟨b3, 0, none⟩)), (7, .slice V N kp), (14, .slice VP M cP), (15, .int .i64 (i : Int))] a) : (waT 24).wp Try.prog Q a X := by
  subst hn
  obtain ⟨U, rfl, e0, e3, e7, e14, e15, -⟩ := ha.openWA
  unfold FrWA
  simp only [e0, e3, e7, e14, e15]
  clear e0 e3 e7 e14 e15 ha
  show (Code.seq _ _).wp _ _ _ _
  by_cases hlt : i < M
  · have hiM : (i : Int) < (M : Int) := by omega
    have HLT : Hid (i < M) := hlt
    have hil : i < (allPs (pnL L) cells f).length := by rw [hPl.out]; exact hlt
    obtain ⟨p, hp⟩ : ∃ p, (allPs (pnL L) cells f)[i]? = some p := ⟨_, List.getElem?_eq_getElem hil⟩
    have hpi : isPt (pnL L) cells f p = true := allPs_is _ (List.mem_of_getElem? hp)
    have hpD : (allPs (pnL L) cells f).getD i default = p := by rw [List.getD_eq_getElem?_getD, hp]; rfl
    obtain ⟨i0, hi0, hQ0, hr0⟩ := HP.out.at_ hpi
    have hrp := hr0 _ hpi (part_self HP.out.ok hpi)
    have hfd := wlk_fd HP.out.ok hpi
    have hcnt := wlk_count HP.out.ok hpi
    have HE : Hid (∀ c : Nat, (c : Int) ∈ wlk (pnL L) cells (lkM W) p → ∀ Z, WaK w Z b3 A VA VB V L ca cb kp N cells f W qs → Calls Try.prog 10 #[.slice V N kp, .agg #[.int .i64 (c : Int), .int .i64 0]] Z fun e w' => e = .returned (.int .i64 (i0 : Int)) ∧ Below Z.heap.size Z w') := fun c hc Z hZ => by
      have hcn := (hfd.lt _ hc).2
      have hcp : isPt (pnL L) cells f ((c : Int), ((0 : Nat) : Int)) = true := isPt_cell f (by omega) (HP.out.pos c (by omega))
      exact whose_is V N kp i0 ((c : Int), ((0 : Nat) : Int)) R qs w Z HP.out.qn HP.out.len hi0 (Lib.hid hZ.pa) (Lib.hid HP.out.qm) (Lib.hid (hr0 _ hcp ((bel_cell (by omega)).2 (srtC_mem.2 ⟨hc, by omega, by omega⟩))))
    have E1 : Hid (∀ Z, WaK w Z b3 A VA VB V L ca cb kp N cells f W qs → Calls Try.prog 10 #[.slice V N kp, .agg #[.int .i64 p.1, .int .i64 p.2]] Z fun e w' => e = .returned (.int .i64 (i0 : Int)) ∧ Below Z.heap.size Z w') := fun Z hZ => whose_is V N kp i0 p R qs w Z HP.out.qn HP.out.len hi0 (Lib.hid hZ.pa) (Lib.hid HP.out.qm) (Lib.hid hrp)
    have HRp : Hid (∀ Z, PtsRd Z VP (allPs (pnL L) cells f) → ∃ b off, VP = some ⟨b, off, none⟩ ∧ b < Z.heap.size ∧ Z.cell? ⟨b, off + i * 2, none⟩ = some (.int .i64 p.1) ∧ Z.cell? ⟨b, off + i * 2 + 1, none⟩ = some (.int .i64 p.2)) := fun Z hZ => by
      have := hZ i hil
      rw [hpD] at this; exact this
    obtain ⟨wl, hwl⟩ : ∃ wl, wlk (pnL L) cells (lkM W) p = wl := ⟨_, rfl⟩
    have HFp : Hid (∀ Z A' cap' VA' VB' ca' cb', L.length ≤ cap' → Rd Z A' VA' VB' L cells W → Calls Try.prog 12 #[.slice A' L.length cap', .agg #[.slice VA' cells.length ca', .int .i64 (f : Int), .slice VB' W.length cb'], .agg #[.int .i64 p.1, .int .i64 p.2]] Z fun e w' => ∃ Vf kf, e = .returned (.tuple #[.slice Vf wl.length kf, .int .i64 0]) ∧ IntsRd w' Vf wl ∧ Below Z.heap.size Z w') := fun Z A' cap' VA' VB' ca' cb' h1 h2 => by
      have := HF.out p hpi Z A' cap' VA' VB' ca' cb' h1 h2
      rw [hwl] at this
      exact this.mono fun e w' ⟨Vf, kf, he, hf⟩ => ⟨Vf, kf, he, hf.1.ints, hf.2.2⟩
    rw [hwl] at hfd hcnt HE
    obtain ⟨m, hm⟩ : ∃ m, wl.length = m := ⟨_, rfl⟩
    have HCell : Hid (∀ Z, PaS w Z (.slice V N kp) qs → ∃ g Va ka, V = some ⟨g, 0, none⟩ ∧ Z.cell? ⟨g, i0 * 2, none⟩ = some (.slice Va m ka) ∧ g < Z.heap.size) := fun Z hZ => by
      obtain ⟨g, Va, ka, Vb, kb, h1, h2, h3, h4⟩ := HP.out.cells_ hZ hi0
      rw [hQ0, ← hcnt, hm] at h2
      exact ⟨g, Va, ka, h1, h2, h4⟩
    have hmn : m ≤ 64 := by have := hfd.len; have := HP.out.n64; omega
    have HM := Lib.hid (And.intro hm (And.intro hfd (rfl : cells.length = cells.length)))
    have hz0 : decide ((i0 : Int) < 0) = false := decide_eq_false (by omega)
    have hi05 : i0 < N := hi0
    have hi06 : (i0 : Int) < (N : Int) := by omega
    obtain ⟨p1, p2⟩ := p
    dsimp only at E1 HRp HFp
    obtain ⟨b, off, rfl, x1, x2, x3⟩ := HRp.out X HK.out.2
    have HK0 := HK
    clear hlt hil hp hpi hpD hQ0 hr0 hrp hfd hcnt hwl hm hi0 HF HK
    go_wp2_with fail
    refine (E1.out _ HK0.out.1).mono ?_
    rintro e w1 ⟨rfl, hb1⟩
    have HK1 := Lib.hid (And.intro (HK0.out.1.below hb1) (HK0.out.2.below hb1))
    clear hb1 x1 x2 x3
    obtain ⟨i9, hi0, hi1, hi2, hi3⟩ := info_parts bool_info
    have hS : ∀ Z, Below w1.heap.size w1 Z → Z.cell? ⟨b3, 0, none⟩ = some (.slice VA cells.length ca) ∧ Z.cell? ⟨b3, 1, none⟩ = some (.int .i64 (f : Int)) ∧ Z.cell? ⟨b3, 2, none⟩ = some (.slice VB W.length cb) ∧ Z.cell? ⟨b, off + i * 2, none⟩ = some (.int .i64 p1) ∧ Z.cell? ⟨b, off + i * 2 + 1, none⟩ = some (.int .i64 p2) := fun Z hz => by
      have hk := (HK1.out.1.below hz).nb
      obtain ⟨b', off', e, y1, y2, y3⟩ := HRp.out Z (HK1.out.2.below hz)
      simp only [Option.some.injEq, Addr.mk.injEq, and_true] at e
      obtain ⟨rfl, rfl⟩ := e
      exact ⟨hk.c0, hk.c1, hk.c2, y2, y3⟩
    have HKP := Lib.hid hS
    have C1 : Hid (∀ Z, Below w1.heap.size w1 Z → Calls Try.prog 8 #[.slice A L.length cap] Z fun e w' => ∃ V9 c9, e = .returned (.slice V9 L.length c9) ∧ AgRd w' V9 L ∧ L.length ≤ c9 ∧ Below Z.heap.size Z w') := fun Z hz =>
      (copy_agents A cap L Z ((HK1.out.1.below hz).rd.a) hL).mono fun e w' ⟨V9, c9, he, hf⟩ => ⟨V9, c9, he, Row.agents hf.1, (by obtain ⟨A8, c8, e8, h8⟩ := hf.1.len; injection e8 with _ _ e9; rw [e9]; exact h8), hf.2.2⟩
    have C2 : Hid (∀ Z, Below w1.heap.size w1 Z → Calls Try.prog 9 #[.agg #[.slice VA cells.length ca, .int .i64 (f : Int), .slice VB W.length cb]] Z fun e w' => ∃ V1 k1 V2 k2, e = .returned (.agg #[.slice V1 cells.length k1, .int .i64 (f : Int), .slice V2 W.length k2]) ∧ IntsRd w' V1 cells ∧ WrRd w' V2 W ∧ Below Z.heap.size Z w') := fun Z hz =>
      (copy_net VA VB ca cb cells f W Z (by have := HP.out.n64; omega) (by omega) (Lib.hid (HK1.out.1.below hz).rd.c) (Lib.hid (HK1.out.1.below hz).rd.w)).mono fun e w' ⟨V1, k1, V2, k2, he, h1, h2, _, _, hb⟩ => ⟨V1, k1, V2, k2, he, h1, h2, hb⟩
    have HBz : Hid (Below w1.heap.size w1 w1.drew) := (Below.refl _ _).drew
    clear hS
    simp only []
    go_upto_region 27 with fail
    go_region_held3 (fun Z => Z.cell? ⟨b3, 0, none⟩ = some (.slice VA cells.length ca) ∧ Z.cell? ⟨b3, 1, none⟩ = some (.int .i64 (f : Int)) ∧ Z.cell? ⟨b3, 2, none⟩ = some (.slice VB W.length cb) ∧ Z.cell? ⟨b, off + i * 2, none⟩ = some (.int .i64 p1) ∧ Z.cell? ⟨b, off + i * 2 + 1, none⟩ = some (.int .i64 p2)) (exact HKP.out _ HBz.out)
      (first
        | (go_at_call 8; with_reducible refine (C1.out _ HBz.out).mono ?_; rintro e w2 ⟨V9, c9, rfl, ha9, hc9, hb2⟩; have HBz := Lib.hid (HBz.out.trans (hb2.mono HBz.out.size)); have HA9 := Lib.hid ha9; have HC9 := Lib.hid hc9; clear ha9 hc9 hb2; dsimp only)
        | (go_at_call 9; with_reducible refine (C2.out _ HBz.out).mono ?_; rintro e w3 ⟨V1, k1, V2, k2, rfl, h1, h2, hb3⟩; have HBz := Lib.hid (HBz.out.trans (hb3.mono HBz.out.size)); have HA9 := Lib.hid (HA9.out.below hb3); have HN9 := Lib.hid (And.intro h1 h2); clear h1 h2 hb3; dsimp only)
        | (go_at_call 12; with_reducible refine (HFp.out _ _ _ _ _ _ _ HC9.out ⟨HA9.out, HN9.out.1, HN9.out.2⟩).mono ?_; rintro e w4 ⟨Vf, kf, rfl, hf4, hb4⟩; have HBz := Lib.hid (HBz.out.trans (hb4.mono HBz.out.size)); have HF4 := Lib.hid hf4; clear hf4 hb4; dsimp only))
    all_goals
      have HK4 := Lib.hid (And.intro (HK1.out.1.below HBz.out) (HK1.out.2.below HBz.out))
      obtain ⟨gV, Va, ka, rfl, y0, yl⟩ := HCell.out w4 HK4.out.1.pa
      have z0 := HK4.out.1.nb.c0
      have zl := HK4.out.1.nb.lt
      rw [HM.out.1]
      go_upto_region 32 with (at_make; refine wpList_make_row _ rfl _ _ _ rfl _ i9 _ (by rfl) hi0 hi1 hi2 (by rfl) .i64 .i64 cells.length (by rfl) (by rfl) (by rw [hi3]; have := HP.out.n64; omega) (by have := HP.out.n64; omega) ?_)
      refine absW (fun Z => Below w4.heap.size w4 Z ∧ Z.heap[w4.heap.size]? = some (.cells (madeCells #[.bool false] cells.length) 4 (0, 0))) ⟨(Below.refl _ _).alloc (Nat.le_refl _) _, heap_alloc_new w4 _⟩ ?_
      rintro Z ⟨hbZ, hzg⟩
      have hI0 : Below w4.heap.size w4 Z ∧ Row Z 4 1 (.slice (some ⟨w4.heap.size, 0, none⟩) cells.length cells.length) cells.length (seenB cells.length (wl.take 0)) := ⟨hbZ, by
        rw [List.take_zero]
        exact ⟨by simp [seenB], .inr ⟨w4.heap.size, cells.length, _, rfl, hzg, Nat.le_refl _, by unfold maxLen; have := HP.out.n64; omega, by simp [size_madeCells], by rw [toList_madeCells_one, seenB_nil]; simp⟩⟩⟩
      have HI0 := Lib.hid hI0
      clear hbZ hzg hI0 y0 yl z0 zl

      refine wp_loop_ghost (fun m' a' X' => ∃ k, m' = m - k ∧ k ≤ m ∧ FrN 198 [] [(0, .slice A L.length cap), (3, .pointer (some ⟨b3, 0, none⟩)), (7, .slice (some ⟨gV, 0, none⟩) N kp), (14, .slice (some ⟨b, off, none⟩) M cP), (15, .int .i64 (i : Int)), (16, .int .i64 (i0 : Int)), (17, .slice Vf m kf), (19, .slice (some ⟨w4.heap.size, 0, none⟩) cells.length cells.length), (20, .int .i64 (k : Int))] a' ∧ (Below w4.heap.size w4 X' ∧ Row X' 4 1 (.slice (some ⟨w4.heap.size, 0, none⟩) cells.length cells.length) cells.length (seenB cells.length (wl.take k)))) m ⟨0, by omega, by omega, ⟨rfl, rfl, rfl, rfl, rfl, rfl, rfl, rfl, rfl, rfl, rfl, trivial⟩, HI0.out⟩ ?_
      rintro m' a2 X2 ⟨k, rfl, hk, hfr, hps⟩
      refine wa_32 _ w b3 A VA VB (some ⟨gV, 0, none⟩) L _ cap ca cb kp N cells f W qs (some ⟨b, off, none⟩) Vf M cP i i0 m kf w4.heap.size cells.length wl a2 w4 X2 k hk (by omega) (by have := HP.out.n64; omega) (Lib.hid ⟨HM.out.1, HM.out.2.1, rfl⟩) (Lib.hid ⟨HK4.out.1, HF4.out, Nat.le_refl _⟩) HE (Lib.hid hps) (Lib.hid fun a3 X3 hlt hfr3 hps3 => ?_) (Lib.hid fun a3 X3 hfr3 hb3 => ?_) hfr
      · exact ⟨m - (k + 1), by omega, k + 1, rfl, by omega, hfr3, hps3⟩
      rename_i K25 hK25 hB2 hB1 hA8 hB0 hHe
      refine hK25 _ _ ?_
      obtain ⟨U, rfl, e0, e3, e7, e14, e15, -⟩ := hfr3.openWA
      unfold FrWA
      simp only [e0, e3, e7, e14, e15]
      have HK5 := Lib.hid (And.intro (HK4.out.1.below hb3) (HK4.out.2.below hb3))
      clear e0 e3 e7 e14 e15 hfr3 hfr hps hb3 hk
      repeat (first | go_values | go_skip | go_guarded | go_step | go_upon | go_back)
      exact hgo.out _ _ HLT.out ⟨rfl, rfl, rfl, rfl, rfl, rfl, rfl, trivial⟩ HK5.out
  · obtain rfl : i = M := by omega
    have hiM : ¬ (i : Int) < (i : Int) := by omega
    clear hlt
    repeat (first | go_values | go_skip | go_guarded | go_step | go_upon | go_back)
    exact hout.out _ _ ⟨rfl, rfl, rfl, rfl, rfl, rfl, trivial⟩ rfl HK.out.1
end
end Go.Proofs.Ytogbanlfihabpaa
