/-
  Contract of code.From, of a port of a net that may be.
-/
import Derived.Test.YtkonfogebepccaaDoorWebBuild
import Derived.Test.YtkonfogebepccaaDoorWebFrom
import Derived.Deep.Cut
namespace Go.Proofs.YtkonfogebepccaaDoor
open Go.RowKit
attribute [local go_sem] cell_set
set_option maxRecDepth 100000
set_option linter.unusedVariables false

/-- What a port is linked to, no cell where it is linked to nothing. -/
def lkM (W : List (Pt × Pt)) (p : Pt) : Pt := (lnk W p).getD (-1, 0)
theorem lkM_eq {pn : Int → Nat} {cells : List Int} {free : Nat} {W : List (Pt × Pt)} (h : NetOk pn cells free W) {p : Pt} (hp : isPt pn cells free p = true) : lkT (lnk W) p = lkM W p ∧ isPt pn cells free (lkM W p) = true := by
  obtain ⟨q, h1, h2⟩ := h.lnk hp
  simp [lkT, lkM, h1, h2]
theorem lkM_is {pn : Int → Nat} {cells : List Int} {free : Nat} {W : List (Pt × Pt)} (h : NetOk pn cells free W) (p : Pt) : lkM W p = (-1, 0) ∨ isPt pn cells free (lkM W p) = true := by
  unfold lkM
  cases e : lnk W p with
  | none => exact .inl rfl
  | some q => exact .inr (h.is q (lnk_mem (lnk_sym h.nodup e)))
theorem lkM_lt {pn : Int → Nat} {cells : List Int} {free : Nat} {W : List (Pt × Pt)} (h : NetOk pn cells free W) (p : Pt) : (lkM W p).1 < cells.length := by
  rcases lkM_is h p with e | e
  · rw [e]; show (-1 : Int) < cells.length; omega
  · exact isPt_lt e
theorem Web.congr {X : World} {P f : Nat} {G : Nat → Nat} {A : Option Addr} {n ca : Nat} {pn : Int → Nat} {cs : List Int} {fr : Nat} {vC vD : Value} {m : Nat} {Lk Lk' : Pt → Pt} (h : Web X P f G A n ca pn cs fr vC vD m Lk) (hm : m = cs.length) (he : ∀ p, isPt pn cs fr p = true → Lk p = Lk' p) : Web X P f G A n ca pn cs fr vC vD m Lk' := by
  refine ⟨h.blk, h.rc, fun j hj => ?_, ?_, h.fG, h.GG⟩
  · have e : rowP pn cs Lk (j : Int) = rowP pn cs Lk' (j : Int) := by
      unfold rowP
      refine List.map_congr_left fun k hk => he _ (isPt_cell fr (by omega) ?_)
      have := List.mem_range.1 hk
      rwa [Int.toNat_natCast] at this
    rw [← e]; exact h.rows j hj
  · have e : freeP fr Lk = freeP fr Lk' := by
      unfold freeP
      refine List.map_congr_left fun k hk => he _ ?_
      have := List.mem_range.1 hk
      unfold isPt
      rw [if_pos rfl, decide_eq_true_eq]
      dsimp only
      omega
    rw [← e]; exact h.rf
theorem startP_is {pn : Int → Nat} {cells : List Int} {free : Nat} {W : List (Pt × Pt)} (h : NetOk pn cells free W) {p : Pt} (hp : isPt pn cells free p = true) : isPt pn cells free (startP (lkM W) p) = true := by
  unfold startP
  split
  · exact (lkM_eq h hp).2
  · exact hp
theorem codeN_len {pn : Int → Nat} {cs : List Int} {Lk : Pt → Pt} {p : Pt} (h7 : ∀ a, pn a ≤ 7) (hL : ∀ x, (Lk x).1 < cs.length) (hs : (startP Lk p).1 < cs.length) : (codeN pn cs Lk p).length ≤ 1 + 8 * cs.length := by
  have hf : Fnd cs.length (walkL cs.length (rowP pn cs Lk) (startP Lk p).1) := Fnd.walkF (fun c q hq => by
    simp only [rowP, List.mem_map] at hq
    obtain ⟨k, _, rfl⟩ := hq
    exact hL _) _ _ ((Fnd.nil _).add hs)
  have h1 := codeK_len (cs := cs) (row := rowP pn cs Lk) (fd := fdOf cs.length (walkL cs.length (rowP pn cs Lk) (startP Lk p).1)) (p := startP Lk p) (l := walkL cs.length (rowP pn cs Lk) (startP Lk p).1) (fun c _ => by rw [rowP_len]; exact h7 _)
  have h2 := hf.len
  unfold codeN
  omega
def PtBx (X : World) (b : Nat) (p : Pt) : Prop := X.heap[b]? = some (.cells #[.int .i64 p.1, .int .i64 p.2] 83 (0, 0))
theorem PtBx.cells {X : World} {b : Nat} {p : Pt} (h : PtBx X b p) : X.cell? ⟨b, 0, none⟩ = some (.int .i64 p.1) ∧ X.cell? ⟨b, 1, none⟩ = some (.int .i64 p.2) ∧ b < X.heap.size := by
  have h' : X.heap[b]? = some (.cells #[.int .i64 p.1, .int .i64 p.2] 83 (0, 0)) := h
  refine ⟨?_, ?_, heap_lt h'⟩ <;> simp [World.cell?, h']
theorem PtBx.below {X X' : World} {b : Nat} {p : Pt} (h : PtBx X b p) (hb : Below X.heap.size X X') : PtBx X' b p := (hb.block b (heap_lt h)).trans h
section
variable (A : Option Addr) (n cap : Nat) (L : List (ByteArray × Int)) (VA VB : Option Addr) (ca cb : Nat) (cells : List Int) (free : Int) (W : List (Pt × Pt)) (w : World)
set_option maxHeartbeats 4000000 in
theorem code_from (p : Pt) (hn : n = L.length) (hcap : L.length ≤ cap) (HL : Hid (AgRd w A L)) (hl : L.length ≤ maxLen) (HC : Hid (IntsRd w VA cells)) (HW : Hid (WrRd w VB W)) (hc : cells.length ≤ 10000) (hw : W.length ≤ 40000)
    (hk : (netChk (pnL L) L.length (chk L) cells free W).1 = 0) (hp : isPt (pnL L) cells free.toNat p = true) :
    Calls Tryd.prog 43 #[.slice A n cap, netV VA ca cells free VB cb W, .agg #[.int .i64 p.1, .int .i64 p.2]] w fun e w' => ∃ V c, e = .returned (.tuple #[.slice V (codeN (pnL L) cells (lkM W) p).length c, .int .i64 0]) ∧
      Fresh w w' 3 1 (codeN (pnL L) cells (lkM W) p).length (.slice V (codeN (pnL L) cells (lkM W) p).length c) (ivals (codeN (pnL L) cells (lkM W) p)) := by
  subst hn
  obtain ⟨hz, hc4, hf0, hf64, hag, hok⟩ := netChk_ok hk
  obtain ⟨f, rfl⟩ := Int.eq_ofNat_of_zero_le hf0
  have hs := chk_sig hz
  have hp7 := pnL_le hs
  have HK := Lib.hid hk
  have HOk : Hid (NetOk (pnL L) cells f W) := hok
  have HAg := Lib.hid hag
  have HS := Lib.hid hs
  have HP : Hid (isPt (pnL L) cells f p = true) := hp
  have HLk : Hid (∀ q, isPt (pnL L) cells f q = true → isPt (pnL L) cells f (lkM W q) = true) := fun q hq => (lkM_eq HOk.out hq).2
  clear hk hok hz hag hs hp
  go_enter Tryd.func43, Tryd.ntmps43
  go_upto_region 1 with fail
  refine absW (fun X => Below w.heap.size w X ∧ NBox X w.heap.size VA cells.length ca f VB W.length cb ∧ PtBx X (w.heap.size + 1) p) ⟨by (repeat (first | exact Below.refl _ _ | (with_reducible refine Below.drew ?_) | (with_reducible refine Below.alloc ?_ (by (try simp); (try omega)) _) | (with_reducible refine Below.setCell ?_ (by (try simp); (try omega)) _) | (with_reducible refine Below.trans ?_ (Below.mono (by assumption) (by (try simp); (try omega)))))), ⟨by simp <;> omega, by go_simp, by go_simp, by go_simp⟩, ?_⟩ ?_
  · have := heap_alloc_new (w.alloc (.cells #[.slice VA cells.length ca, .int .i64 (f : Int), .slice VB W.length cb] 64)) (.cells #[.int .i64 p.1, .int .i64 p.2] 83)
    rw [World.size_alloc] at this
    exact this
  rintro X ⟨hbx, hnb, hpb⟩
  have n0 := hnb.c0
  have n1 := hnb.c1
  have n2 := hnb.c2
  have hzy := hnb.lt
  have HX := Lib.hid (And.intro hbx (And.intro hnb hpb))
  clear hbx hnb hpb
  go_upto_region 6 with (first
    | (go_at_call 23
       refine (net_check A _ cap L VA VB ca cb cells f W _ rfl hcap (Lib.hid (HL.out.below HX.out.1)) hl (Lib.hid (HC.out.below HX.out.1)) (Lib.hid (HW.out.below HX.out.1)) hc hw).mono ?_
       rintro e w1 ⟨rfl, hb1⟩
       rw [HK.out]
       have hnb := HX.out.2.1.below hb1
       have n0 := hnb.c0
       have n1 := hnb.c1
       have n2 := hnb.c2
       have hz1 := hnb.lt
       have HB1 := Lib.hid (HX.out.1.trans (hb1.mono HX.out.1.size))
       have HN1 := Lib.hid (And.intro hnb (HX.out.2.2.below hb1))
       clear hb1 hnb)
    | (go_at_call 88
       refine (code_look A _ cap L VA VB ca cb cells f W _ rfl (Lib.hid (HL.out.below HB1.out)) HS.out (Lib.hid (HC.out.below HB1.out)) (Lib.hid (HW.out.below HB1.out)) (by omega) (by omega) hw HAg HOk).mono ?_
       rintro e w2 ⟨P, fb, G, vC, vD, rfl, hwb, hd, hb2, hlo, hloD⟩
       have HWb := Lib.hid (hwb.congr rfl fun q hq => (lkM_eq HOk.out hq).1)
       have HD := Lib.hid hd
       have hnb := HN1.out.1.below hb2
       have hpb := (HN1.out.2.below hb2).cells
       have n0 := hnb.c0
       have n1 := hnb.c1
       have hz2 := hnb.lt
       have HB2 := Lib.hid (HB1.out.trans (hb2.mono HB1.out.size))
       have HloD : Hid (∀ b ∈ ownB vD, w.heap.size ≤ b) := fun b hb => Nat.le_trans HB1.out.size (hloD b hb)
       obtain ⟨x0, x1, hx⟩ := hpb
       clear hwb hd hnb hb2 hlo hloD))
  have HA : Hid (∀ Z, Kp (ownB vD) w2 Z → IntsRd Z VA cells) := fun Z hk => HC.out.below (HB2.out.trans (hk.below HB2.out.size HloD.out))
  obtain ⟨p1, p2⟩ := p
  dsimp only at x0 x1
  by_cases h : p1 = -1
  · subst h
    obtain ⟨_, h2, h3⟩ := isPt_free HP.out (by show (-1 : Int) < 0; decide)
    dsimp only at h2 h3
    go_wp2_with (go_at_call 89
                 go_loud (refine (web_from P fb _ VA _ ca (pnL L) cells f _ vD (lkM W) _ (-1, p2) HWb HD HA rfl (by omega) (by omega) hp7 HP HLk).mono ?_)
                 rintro e w3 ⟨v, rfl, hr, hw3, hd3, hk3, hlo3⟩
                 obtain ⟨V, c3, rfl, hc3⟩ := hr.len
                 have HR3 := Lib.hid hr
                 have HK3 := Lib.hid (And.intro hk3 hlo3)
                 clear hr hw3 hd3 hk3 hlo3)
    exact bodyPost_ret (v := .tuple #[.slice V (codeN (pnL L) cells (lkM W) (-1, p2)).length c3, .int .i64 0]) (by simp only [results, Tryd.results43]; go_simp) rfl ⟨V, c3, rfl, HR3.out, fun b hb => Nat.le_trans (HB2.out.size) (HK3.out.2 b hb), HB2.out.trans (HK3.out.1.below HB2.out.size HloD.out)⟩
  · have hp0 := HP.out
    unfold isPt at hp0
    rw [if_neg h, decide_eq_true_eq] at hp0
    obtain ⟨h1, h2, h3, h4⟩ := hp0
    obtain ⟨c, rfl⟩ := Int.eq_ofNat_of_zero_le (show 0 ≤ p1 from h1)
    obtain ⟨s, rfl⟩ := Int.eq_ofNat_of_zero_le (show 0 ≤ p2 from h3)
    dsimp only at h2 h4
    rw [Int.toNat_natCast] at h4
    have hcl : c < cells.length := by omega
    have hsl : s < pnL L (cells.getD c 0) := by omega
    obtain ⟨c0, c1, c2, c3, hPl⟩ := HWb.out.cells
    obtain ⟨g2, cc, rfl, hgl2, r0⟩ := HWb.out.rowAt hcl
    unfold rowV at r0
    generalize G c = gc at r0
    generalize pnL L (cells.getD c 0) = M at r0 hsl
    clear h1 h2 h3 h4 h c0 c2 c3
    go_wp2_with fail
    go_quiet (fail)
    have hdn := below_drewN (Below.refl w2.heap.size w2) nq
    have HWb := Lib.hid (HWb.out.below hdn)
    have HD := Lib.hid (HD.out.keep fun b hb => hdn.block b (HD.out.lt b hb))
    have HA : Hid (∀ Z, Kp (ownB vD) (w2.drewN nq) Z → IntsRd Z VA cells) := fun Z hk => HA.out Z ((Kp.of_below hdn).trans hk fun b hb => .inl hb)
    have HB2 := Lib.hid (HB2.out.trans (hdn.mono HB2.out.size))
    clear hdn
    go_wp2_with (go_at_call 89
                 go_loud (refine (web_from P fb _ VA _ ca (pnL L) cells f _ vD (lkM W) _ ((c : Int), (s : Int)) HWb HD HA rfl (by omega) (by omega) hp7 HP HLk).mono ?_)
                 rintro e w3 ⟨v, rfl, hr, hw3, hd3, hk3, hlo3⟩
                 obtain ⟨V, c3, rfl, hc3⟩ := hr.len
                 have HR3 := Lib.hid hr
                 have HK3 := Lib.hid (And.intro hk3 hlo3)
                 clear hr hw3 hd3 hk3 hlo3)
    exact bodyPost_ret (v := .tuple #[.slice V (codeN (pnL L) cells (lkM W) ((c : Int), (s : Int))).length c3, .int .i64 0]) (by simp only [results, Tryd.results43]; go_simp) rfl ⟨V, c3, rfl, HR3.out, fun b hb => Nat.le_trans (HB2.out.size) (HK3.out.2 b hb), HB2.out.trans (HK3.out.1.below HB2.out.size HloD.out)⟩
end
end Go.Proofs.YtkonfogebepccaaDoor
