/-
  skeinlaw12.CodeSame: the walk.
-/
import Derived.Test.YtcebejcdfdahjaaAlike
import Derived.Test.YtcebejcdfdahjaaHeavy
import Derived.Test.YtcebejcdfdahjaaRef03W
import Derived.Test.YtcebejcdfdahjaaCodeCmpLaw
import Derived.Deep.DeepCutAuto
import Derived.Deep.RegionHeld3
namespace Go.Proofs.Ytcebejcdfdahjaa
open Go.RowKit
attribute [local go_sem] cell_set
set_option maxRecDepth 100000
set_option linter.unusedVariables false

/-- How many wires a net that may be has. -/
theorem ends_length (W : List (Pt × Pt)) : (ends W).length = 2 * W.length := by
  unfold ends
  induction W with
  | nil => rfl
  | cons x r ih => simp only [List.flatMap_cons, List.length_append, ih, List.length_cons, List.length_nil]; omega
theorem nodup_sub {α : Type} [DecidableEq α] {l k : List α} (hl : l.Nodup) (hs : ∀ x ∈ l, x ∈ k) : l.length ≤ k.length := by
  induction l generalizing k with
  | nil => simp
  | cons a r ih =>
    have ha := hs a (by simp)
    obtain ⟨h1, h2⟩ := List.nodup_cons.1 hl
    have h3 := ih (k := k.erase a) h2 fun x hx => (List.mem_erase_of_ne (fun e => h1 (by rw [← e]; exact hx))).2 (hs x (by simp [hx]))
    have h4 := List.length_erase_of_mem ha
    have h5 : 0 < k.length := List.length_pos_of_mem ha
    simp only [List.length_cons]
    omega
theorem NetOk.wires {pn : Int → Nat} {cells : List Int} {free : Nat} {W : List (Pt × Pt)} (h : NetOk pn cells free W) : 2 * W.length ≤ firstN pn cells free cells.length := by
  have h1 := nodup_sub h.nodup (fun p hp => allPs_mem.2 (h.is p hp))
  rw [ends_length, allPs_len] at h1
  exact h1
/-- A net that may be: what the walk uses of it. -/
structure NetK (L : List (ByteArray × Int)) (cs : List Int) (f : Nat) (W : List (Pt × Pt)) : Prop where
  hk : (netChk (pnL L) L.length (chk L) cs f W).1 = 0
  hs : SigOk L
  ok : NetOk (pnL L) cs f W
  c : cs.length ≤ 4096
  f64 : f ≤ 64
  w : W.length ≤ 40000
  m : firstN (pnL L) cs f cs.length ≤ 100000
theorem netK {L : List (ByteArray × Int)} {cs : List Int} {f : Int} {W : List (Pt × Pt)} (hk : (netChk (pnL L) L.length (chk L) cs f W).1 = 0) : ∃ g : Nat, f = (g : Int) ∧ NetK L cs g W := by
  obtain ⟨hz, hc4, hf0, hf64, hag, hok⟩ := netChk_ok hk
  obtain ⟨g, rfl⟩ := Int.eq_ofNat_of_zero_le hf0
  have hs := chk_sig hz
  have h1 := firstN_le (pnL_le hs) cs g cs.length
  have h2 := NetOk.wires (free := g) hok
  exact ⟨g, rfl, hk, hs, hok, hc4, by omega, by omega, by omega⟩
/-- A port that starts a walk. -/
theorem ptOk_is {L : List (ByteArray × Int)} (hs : SigOk L) {cs : List Int} {f : Nat} {p : Pt} (hp : isPt (pnL L) cs f p = true) : PtOk p := by
  unfold isPt at hp
  split at hp
  · rename_i h
    rw [decide_eq_true_eq] at hp
    exact ⟨.inl h, hp.1, fun h2 => by omega⟩
  · rw [decide_eq_true_eq] at hp
    have := pnL_le hs (cs.getD p.1.toNat 0)
    exact ⟨.inr hp.1, hp.2.2.1, fun _ => by omega⟩
theorem NetK.lk {L : List (ByteArray × Int)} {cs : List Int} {f : Nat} {W : List (Pt × Pt)} (h : NetK L cs f W) (x : Pt) : (lkM W x).1 < cs.length ∧ PtOk (lkM W x) := by
  refine ⟨lkM_lt h.ok x, ?_⟩
  rcases lkM_is h.ok x with e | e
  · rw [e]; exact ⟨.inl rfl, by decide, fun h => by simp at h⟩
  · exact ptOk_is h.hs e
theorem NetK.start {L : List (ByteArray × Int)} {cs : List Int} {f : Nat} {W : List (Pt × Pt)} (h : NetK L cs f W) {p : Pt} (hp : isPt (pnL L) cs f p = true) : (startP (lkM W) p).1 < cs.length ∧ PtOk (startP (lkM W) p) := by
  have := startP_is h.ok hp
  exact ⟨isPt_lt this, ptOk_is h.hs this⟩
theorem NetK.fuel {L : List (ByteArray × Int)} {cs : List Int} {f : Nat} {W : List (Pt × Pt)} (h : NetK L cs f W) {p : Pt} (hp : isPt (pnL L) cs f p = true) : (startP (lkM W) p :: (wlk (pnL L) cs (lkM W) p).flatMap (rowP (pnL L) cs (lkM W))).length ≤ 1 + 8 * cs.length := by
  have h1 := (wlk_fnd (pn := pnL L) (fun x => (h.lk x).1) (h.start hp).1).len
  have h2 : ∀ l : List Int, (l.flatMap (rowP (pnL L) cs (lkM W))).length ≤ 8 * l.length := fun l => by
    induction l with
    | nil => simp
    | cons c r ih =>
      have := pnL_le h.hs (cs.getD c.toNat 0)
      simp only [List.flatMap_cons, List.length_append, rowP_len, List.length_cons]
      omega
  have := h2 (wlk (pnL L) cs (lkM W) p)
  simp only [List.length_cons]
  omega
/-- What alike answers. -/
theorem alike_ans {L : List (ByteArray × Int)} {csA csB : List Int} {fA fB : Nat} {WA WB : List (Pt × Pt)} (ha : NetK L csA fA WA) (hb : NetK L csB fB WB) {a b : Pt} (hpa : isPt (pnL L) csA fA a = true) (hpb : isPt (pnL L) csB fB b = true) {f : Nat} (h1 : 1 + 8 * csA.length ≤ f) (h2 : 1 + 8 * csB.length ≤ f) :
    alk (labC csA) (labC csB) (rowP (pnL L) csA (lkM WA)) (rowP (pnL L) csB (lkM WB)) f [(startP (lkM WA) a, startP (lkM WB) b)] [] [] = decide (codeN (pnL L) csA (lkM WA) a = codeN (pnL L) csB (lkM WB) b) := by
  have h := alike_codes (pn := pnL L) (csA := csA) (csB := csB) (LA := lkM WA) (LB := lkM WB) (a := a) (b := b) ha.lk hb.lk (ha.start hpa) (hb.start hpb) (f := f) (Nat.le_trans (ha.fuel hpa) h1) (Nat.le_trans (hb.fuel hpb) h2)
  cases hd : decide (codeN (pnL L) csA (lkM WA) a = codeN (pnL L) csB (lkM WB) b)
  · have hn := of_decide_eq_false hd
    cases ha : alk (labC csA) (labC csB) (rowP (pnL L) csA (lkM WA)) (rowP (pnL L) csB (lkM WB)) f [(startP (lkM WA) a, startP (lkM WB) b)] [] []
    · rfl
    · exact absurd (h.1 ha) hn
  · exact h.2 (of_decide_eq_true hd)
/-- A net's box, and a port of a list. -/
def SW (b g j : Nat) (x0 x1 x2 y0 y1 : Value) (X : World) : Prop := X.cell? ⟨b, 0, none⟩ = some x0 ∧ X.cell? ⟨b, 1, none⟩ = some x1 ∧ X.cell? ⟨b, 2, none⟩ = some x2 ∧ X.cell? ⟨g, j, none⟩ = some y0 ∧ X.cell? ⟨g, j + 1, none⟩ = some y1
theorem SW.below {b g j : Nat} {x0 x1 x2 y0 y1 : Value} {X X' : World} (h : SW b g j x0 x1 x2 y0 y1 X) (hb : Below X.heap.size X X') (hl : b < X.heap.size) (hg : g < X.heap.size) : SW b g j x0 x1 x2 y0 y1 X' :=
  ⟨(hb.cell (p := ⟨b, 0, none⟩) hl).trans h.1, (hb.cell (p := ⟨b, 1, none⟩) hl).trans h.2.1, (hb.cell (p := ⟨b, 2, none⟩) hl).trans h.2.2.1, (hb.cell (p := ⟨g, j, none⟩) hg).trans h.2.2.2.1, (hb.cell (p := ⟨g, j + 1, none⟩) hg).trans h.2.2.2.2⟩
/-- Two nets' boxes. -/
def SX (b c : Nat) (x0 x1 x2 y0 y1 y2 : Value) (X : World) : Prop := X.cell? ⟨b, 0, none⟩ = some x0 ∧ X.cell? ⟨b, 1, none⟩ = some x1 ∧ X.cell? ⟨b, 2, none⟩ = some x2 ∧ X.cell? ⟨c, 0, none⟩ = some y0 ∧ X.cell? ⟨c, 1, none⟩ = some y1 ∧ X.cell? ⟨c, 2, none⟩ = some y2
theorem SX.below {b c : Nat} {x0 x1 x2 y0 y1 y2 : Value} {X X' : World} (h : SX b c x0 x1 x2 y0 y1 y2 X) (hb : Below X.heap.size X X') (hl : b < X.heap.size) (hg : c < X.heap.size) : SX b c x0 x1 x2 y0 y1 y2 X' :=
  ⟨(hb.cell (p := ⟨b, 0, none⟩) hl).trans h.1, (hb.cell (p := ⟨b, 1, none⟩) hl).trans h.2.1, (hb.cell (p := ⟨b, 2, none⟩) hl).trans h.2.2.1, (hb.cell (p := ⟨c, 0, none⟩) hg).trans h.2.2.2.1, (hb.cell (p := ⟨c, 1, none⟩) hg).trans h.2.2.2.2.1, (hb.cell (p := ⟨c, 2, none⟩) hg).trans h.2.2.2.2.2⟩
/-- A place of a list of ports that is one. -/
theorem place_is {L : List (ByteArray × Int)} {cs : List Int} {f M : Nat} (hM : (allPs (pnL L) cs f).length = M) {i : Int} (hi : 0 ≤ i) (h0 : M ≠ 0) {X : World} {V : Option Addr} (hp : PtsRd X V (allPs (pnL L) cs f)) :
    ∃ (m : Nat) (p : Pt) (g o : Nat), i % (M : Int) = (m : Int) ∧ m < M ∧ isPt (pnL L) cs f p = true ∧ plc (pnL L) cs f p = m ∧ V = some ⟨g, o, none⟩ ∧ g < X.heap.size ∧ X.cell? ⟨g, o + m * 2, none⟩ = some (.int .i64 p.1) ∧ X.cell? ⟨g, o + m * 2 + 1, none⟩ = some (.int .i64 p.2) := by
  have e1 := Int.emod_nonneg i (b := (M : Int)) (by omega)
  have e2 := Int.emod_lt_of_pos i (b := (M : Int)) (by omega)
  obtain ⟨m, hm⟩ := Int.eq_ofNat_of_zero_le e1
  have hlt : m < (allPs (pnL L) cs f).length := by omega
  obtain ⟨g, o, rfl, hg, c0, c1⟩ := hp m hlt
  have hq := List.getElem?_eq_getElem hlt
  rw [List.getD_eq_getElem?_getD, hq] at c0 c1
  exact ⟨m, _, g, o, hm, by omega, allPs_mem.1 (List.getElem_mem hlt), plc_at (pnL L) hq, rfl, hg, c0, c1⟩
section
variable (A : Option Addr) (cap : Nat) (L : List (ByteArray × Int)) (VA VB UA UB : Option Addr) (ca cb da db : Nat) (csA csB : List Int) (fA fB : Int) (WA WB : List (Pt × Pt)) (w : World)
set_option maxHeartbeats 8000000 in
theorem same_walk (i k : Int) (hcap : L.length ≤ cap) (hl : L.length ≤ maxLen) (HL : Hid (AgRd w A L)) (HCA : Hid (IntsRd w VA csA)) (HWA : Hid (WrRd w VB WA)) (HCB : Hid (IntsRd w UA csB)) (HWB : Hid (WrRd w UB WB)) (hcA : csA.length ≤ 1000000000000000000) (hcB : csB.length ≤ 1000000000000000000) (hwA : WA.length ≤ 1000000000000000000) (hwB : WB.length ≤ 1000000000000000000)
    (hi0 : 0 ≤ i) (hi1 : i ≤ 255) (hk0 : 0 ≤ k) (hk1 : k ≤ 255) :
    Calls Try.prog 7 #[.slice A L.length cap, netV VA ca csA fA VB cb WA, netV UA da csB fB UB db WB, .int .u8 i, .int .u8 k] w fun e w' => e = .returned (.bool true) ∧ Below w.heap.size w w' := by
  obtain ⟨eA, hA⟩ : ∃ e, (netChk (pnL L) L.length (chk L) csA fA WA).1 = e := ⟨_, rfl⟩
  obtain ⟨eB, hB⟩ : ∃ e, (netChk (pnL L) L.length (chk L) csB fB WB).1 = e := ⟨_, rfl⟩
  have HEA := Lib.hid hA
  have HEB := Lib.hid hB
  clear hA hB
  go_enter Try.func7, Try.ntmps7
  go_upto_region 1 with fail
  refine absW (fun X => Below w.heap.size w X ∧ NBox X w.heap.size VA csA.length ca fA VB WA.length cb ∧ NBox X (w.heap.size + 1) UA csB.length da fB UB WB.length db) ⟨by (repeat (first | exact Below.refl _ _ | (with_reducible refine Below.drew ?_) | (with_reducible refine Below.alloc ?_ (by (try simp); (try omega)) _) | (with_reducible refine Below.setCell ?_ (by (try simp); (try omega)) _) | (with_reducible refine Below.trans ?_ (Below.mono (by assumption) (by (try simp); (try omega)))))), ⟨by simp <;> omega, by go_simp, by go_simp, by go_simp⟩, ⟨by simp, by go_simp, by go_simp, by go_simp⟩⟩ ?_
  rintro X ⟨hbx, hna, hnb⟩
  have n0 := hna.c0
  have n1 := hna.c1
  have n2 := hna.c2
  have hlX := hna.lt
  have HX := Lib.hid (And.intro hbx (And.intro hna hnb))
  clear hbx hna hnb
  go_upto_region 2 with (go_at_call 17
                         refine (rcheck3w A _ cap L VA VB ca cb csA fA WA _ rfl hcap (Lib.hid (HL.out.below HX.out.1)) hl (Lib.hid (HCA.out.below HX.out.1)) (Lib.hid (HWA.out.below HX.out.1)) hcA hwA).mono ?_
                         rintro e w1 ⟨rfl, hb1⟩
                         rw [HEA.out]
                         have HX1 := Lib.hid (And.intro (HX.out.1.trans (hb1.mono HX.out.1.size)) (And.intro (HX.out.2.1.below hb1) (HX.out.2.2.below hb1)))
                         clear hb1)
  clear n0 n1 n2 hlX
  have m0 := HX1.out.2.2.c0
  have m1 := HX1.out.2.2.c1
  have m2 := HX1.out.2.2.c2
  have hlX := HX1.out.2.2.lt
  go_upto_region 3 with (go_at_call 17
                         refine (rcheck3w A _ cap L UA UB da db csB fB WB _ rfl hcap (Lib.hid (HL.out.below HX1.out.1)) hl (Lib.hid (HCB.out.below HX1.out.1)) (Lib.hid (HWB.out.below HX1.out.1)) hcB hwB).mono ?_
                         rintro e w2 ⟨rfl, hb2⟩
                         rw [HEB.out]
                         have HX2 := Lib.hid (And.intro (HX1.out.1.trans (hb2.mono HX1.out.1.size)) (And.intro (HX1.out.2.1.below hb2) (HX1.out.2.2.below hb2)))
                         clear hb2)
  clear m0 m1 m2 hlX
  have n0 := HX2.out.2.1.c0
  have n1 := HX2.out.2.1.c1
  have n2 := HX2.out.2.1.c2
  have hlX := HX2.out.2.1.lt
  go_cut [11, 13, 50] (fun _ _ v wx => ∃ bb : Bool, v = .bool bb ∧ (bb = false → eA = 0 ∧ eB = 0) ∧ Below w2.heap.size w2 wx)
  case first =>
    go_wp2_with fail
    refine (heavy_is A _ cap L VA VB _ _ ca cb fA _ rfl hl (Lib.hid (HL.out.below HX2.out.1))).mono ?_
    rintro e w3 ⟨r1, rfl, hb3⟩
    cases r1
    · have hnb := HX2.out.2.2.below hb3
      have m0 := hnb.c0
      have m1 := hnb.c1
      have m2 := hnb.c2
      have hlY := hnb.lt
      clear hnb
      go_wp2_with fail
      refine (heavy_is A _ cap L UA UB _ _ da db fB _ rfl hl (Lib.hid (HL.out.below (HX2.out.1.trans (hb3.mono HX2.out.1.size))))).mono ?_
      rintro e w4 ⟨r2, rfl, hb4⟩
      have hb34 := Lib.hid (hb3.trans (hb4.mono hb3.size))
      clear hb3 hb4
      cases r2
      · by_cases k1 : eA = 0
        · by_cases k2 : eB = 0
          · go_wp2_with fail
            go_meet
            case rel => exact ⟨false, rfl, fun _ => ⟨k1, k2⟩, hb34.out⟩
          · go_wp2_with fail
            go_meet
            case rel => exact ⟨_, rfl, (fun h => ⟨k1, by simpa using h⟩), hb34.out⟩
        · go_wp2_with fail
          go_meet
          case rel => exact ⟨true, rfl, (fun h => nomatch h), hb34.out⟩
      · go_wp2_with fail
        go_meet
        case rel => exact ⟨true, rfl, (fun h => nomatch h), hb34.out⟩
    · go_wp2_with fail
      go_meet
      case rel => exact ⟨true, rfl, (fun h => nomatch h), hb3⟩
  case rest =>
    obtain ⟨bb, hbb, hee, hbw⟩ := hcut
    subst hbb
    have HX3 := Lib.hid (And.intro (HX2.out.1.trans (hbw.mono HX2.out.1.size)) (And.intro (HX2.out.2.1.below hbw) (HX2.out.2.2.below hbw)))
    clear hbw n0 n1 n2 hlX HX HX1 HX2
    cases bb
    · obtain ⟨e1, e2⟩ := hee rfl
      have KA0 := HEA.out
      have KB0 := HEB.out
      rw [e1] at KA0
      rw [e2] at KB0
      obtain ⟨fa, rfl, KA⟩ := netK KA0
      obtain ⟨fb, rfl, KB⟩ := netK KB0
      have HKA := Lib.hid KA
      have HKB := Lib.hid KB
      clear KA KB KA0 KB0 e1 e2 hee HEA HEB
      have n0 := HX3.out.2.1.c0
      have n1 := HX3.out.2.1.c1
      have n2 := HX3.out.2.1.c2
      have hlX := HX3.out.2.1.lt
      go_upto_region 6 with (go_at_call 42
                             refine (rall A _ cap L VA VB ca cb csA fa WA _ rfl (Lib.hid (HL.out.below HX3.out.1)) HKA.out.hs (Lib.hid (HCA.out.below HX3.out.1)) (by have := HKA.out.c; omega) (by have := HKA.out.f64; omega)).mono ?_
                             rintro e w5 ⟨V1, c1, rfl, hf⟩
                             have HA1 := Lib.hid hf.1.pts
                             have HX5 := Lib.hid (And.intro (HX3.out.1.trans (hf.2.2.mono HX3.out.1.size)) (And.intro (HX3.out.2.1.below hf.2.2) (HX3.out.2.2.below hf.2.2)))
                             clear hf)
      clear n0 n1 n2 hlX
      have m0 := HX5.out.2.2.c0
      have m1 := HX5.out.2.2.c1
      have m2 := HX5.out.2.2.c2
      have hlX := HX5.out.2.2.lt
      go_upto_region 7 with (go_at_call 42
                             refine (rall A _ cap L UA UB da db csB fb WB _ rfl (Lib.hid (HL.out.below HX5.out.1)) HKB.out.hs (Lib.hid (HCB.out.below HX5.out.1)) (by have := HKB.out.c; omega) (by have := HKB.out.f64; omega)).mono ?_
                             rintro e w6 ⟨V2, c2, rfl, hf⟩
                             have HA1 := Lib.hid (HA1.out.below hf.2.2)
                             have HA2 := Lib.hid hf.1.pts
                             have HX6 := Lib.hid (And.intro (HX5.out.1.trans (hf.2.2.mono HX5.out.1.size)) (And.intro (HX5.out.2.1.below hf.2.2) (HX5.out.2.2.below hf.2.2)))
                             clear hf)
      clear m0 m1 m2 hlX
      obtain ⟨MA, hMA⟩ : ∃ M, (allPs (pnL L) csA fa).length = M := ⟨_, rfl⟩
      obtain ⟨MB, hMB⟩ : ∃ M, (allPs (pnL L) csB fb).length = M := ⟨_, rfl⟩
      rw [hMA, hMB]
      have hMA1 : MA ≤ 100000 := by rw [← hMA, allPs_len]; exact HKA.out.m
      have hMB1 : MB ≤ 100000 := by rw [← hMB, allPs_len]; exact HKB.out.m
      have HMA := Lib.hid hMA
      have HMB := Lib.hid hMB
      clear hMA hMB
      by_cases a0 : MA = 0
      · go_wp2_with (go_at_call 35; refine (lives12 _).mono ?_; rintro e w7 ⟨rfl, hb7⟩)
        go_ret
        exact ⟨rfl, HX6.out.1.trans (hb7.mono HX6.out.1.size)⟩
      · by_cases b0 : MB = 0
        · go_wp2_with (go_at_call 35; refine (lives12 _).mono ?_; rintro e w7 ⟨rfl, hb7⟩)
          go_ret
          exact ⟨rfl, HX6.out.1.trans (hb7.mono HX6.out.1.size)⟩
        · obtain ⟨mi, ⟨p1, p2⟩, g1, o1, hmi, hmi1, hpa, hpm, rfl, hg1, hx1, hx2⟩ := place_is HMA.out hi0 a0 HA1.out
          obtain ⟨mk, ⟨q1, q2⟩, g2, o2, hmk, hmk1, hpb, hpk, rfl, hg2, hy1, hy2⟩ := place_is HMB.out hk0 b0 HA2.out
          have HPA := Lib.hid (And.intro hpa hpm)
          have HPB := Lib.hid (And.intro hpb hpk)
          dsimp only at hx1 hx2 hy1 hy2
          clear hpa hpm hpb hpk
          have a1 : ((MA : Int) == 0) = false := by rw [beq_eq_false_iff_ne]; omega
          have b1 : ((MB : Int) == 0) = false := by rw [beq_eq_false_iff_ne]; omega
          obtain ⟨cA, hcA'⟩ : ∃ l, codeN (pnL L) csA (lkM WA) (p1, p2) = l := ⟨_, rfl⟩
          obtain ⟨cB, hcB'⟩ : ∃ l, codeN (pnL L) csB (lkM WB) (q1, q2) = l := ⟨_, rfl⟩
          have hlA : cA.length ≤ 50000 := by
            have := codeN_len (pn := pnL L) (cs := csA) (Lk := lkM WA) (p := (p1, p2)) (pnL_le HKA.out.hs) (lkM_lt HKA.out.ok) (isPt_lt (startP_is HKA.out.ok HPA.out.1))
            rw [hcA'] at this
            have := HKA.out.c
            omega
          have hlB : cB.length ≤ 50000 := by
            have := codeN_len (pn := pnL L) (cs := csB) (Lk := lkM WB) (p := (q1, q2)) (pnL_le HKB.out.hs) (lkM_lt HKB.out.ok) (isPt_lt (startP_is HKB.out.ok HPB.out.1))
            rw [hcB'] at this
            have := HKB.out.c
            omega
          have HCA' := Lib.hid hcA'
          have HCB' := Lib.hid hcB'
          clear hcA' hcB'
          have hcLA := HKA.out.c
          have hcLB := HKB.out.c
          have hwLA := HKA.out.w
          have hwLB := HKB.out.w
          have hLL := HKA.out.hs.len
          have hlm : L.length ≤ maxLen := by simp only [maxLen]; omega
          have HFA : Hid (∀ (A2 : Option Addr) (cap2 : Nat) (VA2 VB2 : Option Addr) (ca2 cb2 : Nat) (Z : World), L.length ≤ cap2 → AgRd Z A2 L → IntsRd Z VA2 csA → WrRd Z VB2 WA →
              Calls Try.prog 43 #[.slice A2 L.length cap2, netV VA2 ca2 csA fa VB2 cb2 WA, .agg #[.int .i64 p1, .int .i64 p2]] Z fun e w' => ∃ V c, e = .returned (.tuple #[.slice V cA.length c, .int .i64 0]) ∧ IntsRd w' V cA ∧ Below Z.heap.size Z w') := fun A2 cap2 VA2 VB2 ca2 cb2 Z h1 h2 h3 h4 => by
            refine (code_from A2 _ cap2 L VA2 VB2 ca2 cb2 csA fa WA Z (p1, p2) rfl h1 (Lib.hid h2) hlm (Lib.hid h3) (Lib.hid h4) (by omega) (by omega) HKA.out.hk HPA.out.1).mono ?_
            rintro e w' ⟨V, c, rfl, hf⟩
            rw [HCA'.out] at hf ⊢
            exact ⟨V, c, rfl, hf.1.ints, hf.2.2⟩
          have HFB : Hid (∀ (A2 : Option Addr) (cap2 : Nat) (VA2 VB2 : Option Addr) (ca2 cb2 : Nat) (Z : World), L.length ≤ cap2 → AgRd Z A2 L → IntsRd Z VA2 csB → WrRd Z VB2 WB →
              Calls Try.prog 43 #[.slice A2 L.length cap2, netV VA2 ca2 csB fb VB2 cb2 WB, .agg #[.int .i64 q1, .int .i64 q2]] Z fun e w' => ∃ V c, e = .returned (.tuple #[.slice V cB.length c, .int .i64 0]) ∧ IntsRd w' V cB ∧ Below Z.heap.size Z w') := fun A2 cap2 VA2 VB2 ca2 cb2 Z h1 h2 h3 h4 => by
            refine (code_from A2 _ cap2 L VA2 VB2 ca2 cb2 csB fb WB Z (q1, q2) rfl h1 (Lib.hid h2) hlm (Lib.hid h3) (Lib.hid h4) (by omega) (by omega) HKB.out.hk HPB.out.1).mono ?_
            rintro e w' ⟨V, c, rfl, hf⟩
            rw [HCB'.out] at hf ⊢
            exact ⟨V, c, rfl, hf.1.ints, hf.2.2⟩
          have HAl : Hid (∀ Z, Below w.heap.size w Z → Calls Try.prog 44 #[.slice A L.length cap, netV VA ca csA fa VB cb WA, netV UA da csB fb UB db WB, .int .i64 (mi : Int), .int .i64 (mk : Int)] Z fun e w' => e = .returned (.bool (decide (cA = cB))) ∧ Below Z.heap.size Z w') := fun Z hz => by
            have h := alike_is A _ cap L VA VB UA UB ca cb da db csA csB fa fb WA WB Z (p1, p2) (q1, q2) rfl (Lib.hid (HL.out.below hz)) HKA.out.hs (Lib.hid (HCA.out.below hz)) (Lib.hid (HWA.out.below hz)) (Lib.hid (HCB.out.below hz)) (Lib.hid (HWB.out.below hz)) (by omega) (by omega) (by have := HKA.out.f64; omega) (by have := HKB.out.f64; omega) (by omega) (by omega) HKA.out.ok HKB.out.ok HPA.out.1 HPB.out.1 (1 + 8 * (csA.length + csB.length)) (by omega) (by omega)
            rw [alike_ans HKA.out HKB.out HPA.out.1 HPB.out.1 (by omega) (by omega), HCA'.out, HCB'.out, HPA.out.2, HPB.out.2] at h
            exact h
          clear HCA' HCB' HPA HPB hcLA hcLB hwLA hwLB
          have n0 := HX6.out.2.1.c0
          have n1 := HX6.out.2.1.c1
          have n2 := HX6.out.2.1.c2
          have m0 := HX6.out.2.2.c0
          have m1 := HX6.out.2.2.c1
          have m2 := HX6.out.2.2.c2
          have hlX := HX6.out.2.1.lt
          have hlY := HX6.out.2.2.lt
          go_upto_region 11 with fail
          go_cut [17, 18, 19, 20] (fun s17 s18 x y wx => s17 = .int .i64 (mi : Int) ∧ s18 = .int .i64 (mk : Int) ∧ ∃ U1 c1, x = .slice U1 cA.length c1 ∧ y = .int .i64 0 ∧ IntsRd wx U1 cA ∧ Below w6.heap.size w6 wx)
          case first =>
            have HBz : Hid (Below w.heap.size w w6.drew) := HX6.out.1.drew
            have SZ : SW w.heap.size g1 (o1 + mi * 2) (.slice VA csA.length ca) (.int .i64 (fa : Int)) (.slice VB WA.length cb) (.int .i64 p1) (.int .i64 p2) w6.drew := ⟨n0, n1, n2, hx1, hx2⟩
            have HB6 : Hid (Below w6.heap.size w6 w6.drew) := (Below.refl _ _).drew
            have hz1 : w.heap.size < w6.drew.heap.size := hlX
            have hz2 : g1 < w6.drew.heap.size := hg1
            clear n0 n1 n2 m0 m1 m2 hlX hlY hx1 hx2 hy1 hy2
            go_region_held3 (fun X => X.cell? ⟨w.heap.size, 0, none⟩ = some (.slice VA csA.length ca) ∧ X.cell? ⟨w.heap.size, 1, none⟩ = some (.int .i64 (fa : Int)) ∧ X.cell? ⟨w.heap.size, 2, none⟩ = some (.slice VB WA.length cb) ∧ X.cell? ⟨g1, o1 + mi * 2, none⟩ = some (.int .i64 p1) ∧ X.cell? ⟨g1, o1 + mi * 2 + 1, none⟩ = some (.int .i64 p2))
              (first | exact SZ)
              (first
                | (go_at_call 14
                   refine (copy_agents A cap L _ (HL.out.below HBz.out) (by omega)).mono ?_
                   rintro e v2 ⟨A2, cap2, rfl, hf2⟩
                   have hst := hf2.2.2
                   have SZ := SZ.below hst hz1 hz2
                   have hz1 := Nat.lt_of_lt_of_le hz1 hst.size
                   have hz2 := Nat.lt_of_lt_of_le hz2 hst.size
                   have HBz := Lib.hid (HBz.out.trans (hst.mono HBz.out.size))
                   have HB6 := Lib.hid (HB6.out.trans (hst.mono HB6.out.size))
                   have HA2 : Hid (AgRd v2 A2 L ∧ L.length ≤ cap2) := ⟨hf2.1.agents, by obtain ⟨_, _, h, hh⟩ := hf2.1.len; simp only [Value.slice.injEq, true_and] at h; omega⟩
                   clear hf2 hst)
                | (go_at_call 15
                   refine (copy_net VA VB ca cb csA fa WA _ (by have := HKA.out.c; omega) (by have := HKA.out.w; omega) (Lib.hid (HCA.out.below HBz.out)) (Lib.hid (HWA.out.below HBz.out))).mono ?_
                   rintro e v3 ⟨VA2, ca2, VB2, cb2, rfl, hI3, hW3, _, _, hst⟩
                   have SZ := SZ.below hst hz1 hz2
                   have hz1 := Nat.lt_of_lt_of_le hz1 hst.size
                   have hz2 := Nat.lt_of_lt_of_le hz2 hst.size
                   have HBz := Lib.hid (HBz.out.trans (hst.mono HBz.out.size))
                   have HB6 := Lib.hid (HB6.out.trans (hst.mono HB6.out.size))
                   have HA2 : Hid (AgRd v3 A2 L ∧ L.length ≤ cap2) := ⟨HA2.out.1.below hst, HA2.out.2⟩
                   have HI3 : Hid (IntsRd v3 VA2 csA ∧ WrRd v3 VB2 WA) := ⟨hI3, hW3⟩
                   clear hI3 hW3 hst)
                | (go_at_call 43
                   refine (HFA.out A2 cap2 VA2 VB2 ca2 cb2 _ HA2.out.2 HA2.out.1 HI3.out.1 HI3.out.2).mono ?_
                   rintro e v4 ⟨U1, cu1, rfl, hu, hst⟩
                   have SZ := SZ.below hst hz1 hz2
                   have hz1 := Nat.lt_of_lt_of_le hz1 hst.size
                   have hz2 := Nat.lt_of_lt_of_le hz2 hst.size
                   have HBz := Lib.hid (HBz.out.trans (hst.mono HBz.out.size))
                   have HB6 := Lib.hid (HB6.out.trans (hst.mono HB6.out.size))
                   have HU := Lib.hid hu
                   clear hu hst))
            all_goals
              go_wp2_with fail
              go_meet
              case rel => exact ⟨rfl, rfl, U1, cu1, rfl, rfl, HU.out, HB6.out⟩
          case rest =>
            obtain ⟨rfl, rfl, U1, cu1, rfl, rfl, hu1, hb7⟩ := hcut
            have HU1 := Lib.hid hu1
            have HB7 := Lib.hid (HX6.out.1.trans (hb7.mono HX6.out.1.size))
            have HN7 := Lib.hid (And.intro (HX6.out.2.1.below hb7) (HX6.out.2.2.below hb7))
            have hy1 := (hb7.cell (p := ⟨g2, o2 + mk * 2, none⟩) hg2).trans hy1
            have hy2 := (hb7.cell (p := ⟨g2, o2 + mk * 2 + 1, none⟩) hg2).trans hy2
            have hg2 := Nat.lt_of_lt_of_le hg2 hb7.size
            clear hu1 hb7 n0 n1 n2 m0 m1 m2 hlX hlY hx1 hx2 HX6 HA1 HA2 hmi hg1 a1 b1 HFA
            have m0 := HN7.out.2.c0
            have m1 := HN7.out.2.c1
            have m2 := HN7.out.2.c2
            have hlY := HN7.out.2.lt
            go_upto_region 12 with fail
            go_cut [21, 22] (fun x y wx => ∃ U2 c2, x = .slice U2 cB.length c2 ∧ y = .int .i64 0 ∧ IntsRd wx U2 cB ∧ Below wc.heap.size wc wx)
            case first =>
              have HBz : Hid (Below w.heap.size w wc.drew) := HB7.out.drew
              have SZ : SW (w.heap.size + 1) g2 (o2 + mk * 2) (.slice UA csB.length da) (.int .i64 (fb : Int)) (.slice UB WB.length db) (.int .i64 q1) (.int .i64 q2) wc.drew := ⟨m0, m1, m2, hy1, hy2⟩
              have HB6 : Hid (Below wc.heap.size wc wc.drew) := (Below.refl _ _).drew
              have hz1 : w.heap.size + 1 < wc.drew.heap.size := hlY
              have hz2 : g2 < wc.drew.heap.size := hg2
              clear m0 m1 m2 hlY hy1 hy2
              go_region_held3 (fun X => X.cell? ⟨w.heap.size + 1, 0, none⟩ = some (.slice UA csB.length da) ∧ X.cell? ⟨w.heap.size + 1, 1, none⟩ = some (.int .i64 (fb : Int)) ∧ X.cell? ⟨w.heap.size + 1, 2, none⟩ = some (.slice UB WB.length db) ∧ X.cell? ⟨g2, o2 + mk * 2, none⟩ = some (.int .i64 q1) ∧ X.cell? ⟨g2, o2 + mk * 2 + 1, none⟩ = some (.int .i64 q2))
                (first | exact SZ)
                (first
                  | (go_at_call 14
                     refine (copy_agents A cap L _ (HL.out.below HBz.out) (by omega)).mono ?_
                     rintro e v2 ⟨A2, cap2, rfl, hf2⟩
                     have hst := hf2.2.2
                     have SZ := SZ.below hst hz1 hz2
                     have hz1 := Nat.lt_of_lt_of_le hz1 hst.size
                     have hz2 := Nat.lt_of_lt_of_le hz2 hst.size
                     have HBz := Lib.hid (HBz.out.trans (hst.mono HBz.out.size))
                     have HB6 := Lib.hid (HB6.out.trans (hst.mono HB6.out.size))
                     have HA2 : Hid (AgRd v2 A2 L ∧ L.length ≤ cap2) := ⟨hf2.1.agents, by obtain ⟨_, _, h, hh⟩ := hf2.1.len; simp only [Value.slice.injEq, true_and] at h; omega⟩
                     clear hf2 hst)
                  | (go_at_call 15
                     refine (copy_net UA UB da db csB fb WB _ (by have := HKB.out.c; omega) (by have := HKB.out.w; omega) (Lib.hid (HCB.out.below HBz.out)) (Lib.hid (HWB.out.below HBz.out))).mono ?_
                     rintro e v3 ⟨VA2, ca2, VB2, cb2, rfl, hI3, hW3, _, _, hst⟩
                     have SZ := SZ.below hst hz1 hz2
                     have hz1 := Nat.lt_of_lt_of_le hz1 hst.size
                     have hz2 := Nat.lt_of_lt_of_le hz2 hst.size
                     have HBz := Lib.hid (HBz.out.trans (hst.mono HBz.out.size))
                     have HB6 := Lib.hid (HB6.out.trans (hst.mono HB6.out.size))
                     have HA2 : Hid (AgRd v3 A2 L ∧ L.length ≤ cap2) := ⟨HA2.out.1.below hst, HA2.out.2⟩
                     have HI3 : Hid (IntsRd v3 VA2 csB ∧ WrRd v3 VB2 WB) := ⟨hI3, hW3⟩
                     clear hI3 hW3 hst)
                  | (go_at_call 43
                     refine (HFB.out A2 cap2 VA2 VB2 ca2 cb2 _ HA2.out.2 HA2.out.1 HI3.out.1 HI3.out.2).mono ?_
                     rintro e v4 ⟨U2, cu2, rfl, hu, hst⟩
                     have SZ := SZ.below hst hz1 hz2
                     have hz1 := Nat.lt_of_lt_of_le hz1 hst.size
                     have hz2 := Nat.lt_of_lt_of_le hz2 hst.size
                     have HBz := Lib.hid (HBz.out.trans (hst.mono HBz.out.size))
                     have HB6 := Lib.hid (HB6.out.trans (hst.mono HB6.out.size))
                     have HU := Lib.hid hu
                     clear hu hst))
              all_goals
                go_wp2_with fail
                go_meet
                case rel => exact ⟨U2, cu2, rfl, rfl, HU.out, HB6.out⟩
            case rest =>
              obtain ⟨U2, cu2, rfl, rfl, hu2, hb8⟩ := hcut
              have HU1 := Lib.hid (HU1.out.below hb8)
              have HU2 := Lib.hid hu2
              have HB8 := Lib.hid (HB7.out.trans (hb8.mono HB7.out.size))
              have HN8 := Lib.hid (And.intro (HN7.out.1.below hb8) (HN7.out.2.below hb8))
              clear hu2 hb8 m0 m1 m2 hlY hy1 hy2 HB7 HN7 hmk hg2 HFB
              obtain ⟨q, hq⟩ : ∃ x, decide (cA = cB) = x := ⟨_, rfl⟩
              obtain ⟨n9, hn9⟩ : ∃ x, cmpN cA cB = x := ⟨_, rfl⟩
              have HQ := Lib.hid hq
              have HM9 := Lib.hid hn9
              have hqn : (n9 == 0) = q := by
                rw [← hq, ← hn9]
                by_cases e : cA = cB
                · rw [decide_eq_true e, beq_iff_eq]; exact (cmpN_eq _ _).2 e
                · rw [decide_eq_false e, beq_eq_false_iff_ne]; exact fun h => e ((cmpN_eq _ _).1 h)
              clear hq hn9
              have n0 := HN8.out.1.c0
              have n1 := HN8.out.1.c1
              have n2 := HN8.out.1.c2
              have m0 := HN8.out.2.c0
              have m1 := HN8.out.2.c1
              have m2 := HN8.out.2.c2
              have hlX := HN8.out.1.lt
              have hlY := HN8.out.2.lt
              go_upto_region 15 with fail
              have HBz : Hid (Below w.heap.size w wc.drew) := HB8.out.drew
              have HB6 : Hid (Below wc.heap.size wc wc.drew) := (Below.refl _ _).drew
              have SZ : SX w.heap.size (w.heap.size + 1) (.slice VA csA.length ca) (.int .i64 (fa : Int)) (.slice VB WA.length cb) (.slice UA csB.length da) (.int .i64 (fb : Int)) (.slice UB WB.length db) wc.drew := ⟨n0, n1, n2, m0, m1, m2⟩
              have hz1 : w.heap.size < wc.drew.heap.size := hlX
              have hz2 : w.heap.size + 1 < wc.drew.heap.size := hlY
              clear n0 n1 n2 m0 m1 m2 hlX hlY
              cases q
              all_goals
                go_region_held3 (fun X => X.cell? ⟨w.heap.size, 0, none⟩ = some (.slice VA csA.length ca) ∧ X.cell? ⟨w.heap.size, 1, none⟩ = some (.int .i64 (fa : Int)) ∧ X.cell? ⟨w.heap.size, 2, none⟩ = some (.slice VB WA.length cb) ∧ X.cell? ⟨w.heap.size + 1, 0, none⟩ = some (.slice UA csB.length da) ∧ X.cell? ⟨w.heap.size + 1, 1, none⟩ = some (.int .i64 (fb : Int)) ∧ X.cell? ⟨w.heap.size + 1, 2, none⟩ = some (.slice UB WB.length db))
                  (first | exact SZ)
                  (first
                    | (go_at_call 37
                       refine (cmp_rd (HU1.out.below HB6.out) (HU2.out.below HB6.out) (by omega) (by omega)).mono ?_
                       rintro e v2 ⟨rfl, hst⟩
                       rw [HM9.out]
                       have SZ := SZ.below hst hz1 hz2
                       have hz1 := Nat.lt_of_lt_of_le hz1 hst.size
                       have hz2 := Nat.lt_of_lt_of_le hz2 hst.size
                       have HBz := Lib.hid (HBz.out.trans (hst.mono HBz.out.size))
                       have HB6 := Lib.hid (HB6.out.trans (hst.mono HB6.out.size))
                       clear hst)
                    | (go_at_call 44
                       refine (HAl.out _ HBz.out).mono ?_
                       rintro e v3 ⟨rfl, hst⟩
                       rw [HQ.out]
                       have SZ := SZ.below hst hz1 hz2
                       have hz1 := Nat.lt_of_lt_of_le hz1 hst.size
                       have hz2 := Nat.lt_of_lt_of_le hz2 hst.size
                       have HBz := Lib.hid (HBz.out.trans (hst.mono HBz.out.size))
                       have HB6 := Lib.hid (HB6.out.trans (hst.mono HB6.out.size))
                       clear hst)
                    | (go_at_call 39
                       refine (eq_rd (HU1.out.below HB6.out) (HU2.out.below HB6.out) (by omega) (by omega)).mono ?_
                       rintro e v4 ⟨rfl, hst⟩
                       rw [HQ.out]
                       have SZ := SZ.below hst hz1 hz2
                       have hz1 := Nat.lt_of_lt_of_le hz1 hst.size
                       have hz2 := Nat.lt_of_lt_of_le hz2 hst.size
                       have HBz := Lib.hid (HBz.out.trans (hst.mono HBz.out.size))
                       have HB6 := Lib.hid (HB6.out.trans (hst.mono HB6.out.size))
                       clear hst)
                    | (go_at_call 35
                       refine (lives12 _).mono ?_
                       rintro e v5 ⟨rfl, hst⟩
                       have SZ := SZ.below hst hz1 hz2
                       have hz1 := Nat.lt_of_lt_of_le hz1 hst.size
                       have hz2 := Nat.lt_of_lt_of_le hz2 hst.size
                       have HBz := Lib.hid (HBz.out.trans (hst.mono HBz.out.size))
                       have HB6 := Lib.hid (HB6.out.trans (hst.mono HB6.out.size))
                       clear hst))
              all_goals
                go_wp2_with fail
                go_ret
                exact ⟨rfl, HBz.out⟩
    · go_wp2_with (go_at_call 35; refine (lives12 _).mono ?_; rintro e w7 ⟨rfl, hb7⟩)
      go_ret
      exact ⟨rfl, HX3.out.1.trans (hb7.mono HX3.out.1.size)⟩
end
end Go.Proofs.Ytcebejcdfdahjaa
