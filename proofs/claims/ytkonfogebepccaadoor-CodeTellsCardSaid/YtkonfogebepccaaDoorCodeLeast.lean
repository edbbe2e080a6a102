/-
  Contract of code.Least, of cells of a net that may be.
-/
import Derived.Test.YtkonfogebepccaaDoorCodeFrom
import Derived.Test.YtkonfogebepccaaDoorCodeCompare
namespace Go.Proofs.YtkonfogebepccaaDoor
open Go.RowKit
attribute [local go_sem] cell_set
set_option maxRecDepth 100000
set_option linter.unusedVariables false

def leastS (code : Int → List Int) (b : Int × List Int) (c : Int) : Int × List Int := if b.1 < 0 ∨ cmpN (code c) b.2 < 0 then (c, code c) else b
def leastN (code : Int → List Int) (l : List Int) : Int × List Int := l.foldl (leastS code) (-1, [])
theorem leastN_snoc {code : Int → List Int} {l : List Int} {j : Nat} (hj : j < l.length) : leastN code (l.take (j + 1)) = leastS code (leastN code (l.take j)) (l.getD j 0) := by
  unfold leastN
  rw [List.take_add_one, List.getElem?_eq_getElem hj, List.getD_eq_getElem?_getD, List.getElem?_eq_getElem hj, List.foldl_append]
  rfl
theorem leastN_len {code : Int → List Int} {K : Nat} {l : List Int} (h : ∀ c ∈ l, (code c).length ≤ K) : (leastN code l).2.length ≤ K := by
  unfold leastN
  suffices hs : ∀ b : Int × List Int, b.2.length ≤ K → (l.foldl (leastS code) b).2.length ≤ K from hs _ (by simp)
  induction l with
  | nil => intro b hb; exact hb
  | cons c r ih =>
    intro b hb
    refine ih (fun x hx => h x (by simp [hx])) _ ?_
    unfold leastS
    split
    · exact h c (by simp)
    · exact hb
structure LS (w0 : World) (B0 Bw Bb Bl P f : Nat) (G : Nat → Nat) (A : Option Addr) (n ca : Nat) (pn : Int → Nat) (cs : List Int) (fr : Nat) (vC vD : Value) (Lk : Pt → Pt) (v : Value) (b : Int × List Int) (X : World) : Prop where
  web : Web X P f G A n ca pn cs fr vC vD n Lk
  rd : Row X 3 1 vD n (ivals (List.replicate n (-1)))
  bw : X.heap[Bw]? = some (.cells #[.pointer (some ⟨P, 0, none⟩)] 133 (0, 0))
  bb : X.heap[Bb]? = some (.cells #[.int .i64 b.1] 3 (0, 0))
  bl : X.heap[Bl]? = some (.cells #[v] 137 (0, 0))
  rl : Row X 3 1 v b.2.length (ivals b.2)
  dl : ∀ b ∈ ownB vD, b < B0
  vl : ∀ b ∈ ownB v, B0 ≤ b
  l1 : Bb < B0
  l2 : Bl < B0
  l3 : B0 ≤ X.heap.size
  ne : Bb ∉ ownB vD
  be : Below w0.heap.size w0 X
  o1 : w0.heap.size ≤ Bb
  o2 : w0.heap.size ≤ Bl
  o3 : ∀ b ∈ ownB vD, w0.heap.size ≤ b
section
variable {w0 X X' : World} {B0 Bw Bb Bl P f : Nat} {G : Nat → Nat} {A : Option Addr} {n ca : Nat} {pn : Int → Nat} {cs : List Int} {fr : Nat} {vC vD v v' : Value} {Lk : Pt → Pt} {b b' : Int × List Int}
theorem LS.cells (h : LS w0 B0 Bw Bb Bl P f G A n ca pn cs fr vC vD Lk v b X) : X.cell? ⟨Bw, 0, none⟩ = some (.pointer (some ⟨P, 0, none⟩)) ∧ X.cell? ⟨Bb, 0, none⟩ = some (.int .i64 b.1) ∧ X.cell? ⟨Bl, 0, none⟩ = some v ∧ X.frozen? ⟨Bb, 0, none⟩ = false ∧ X.frozen? ⟨Bl, 0, none⟩ = false ∧
    Bw < X.heap.size ∧ Bb < X.heap.size ∧ Bl < X.heap.size := by
  have h1 := h.bw
  have h2 := h.bb
  have h3 := h.bl
  refine ⟨?_, ?_, ?_, ?_, ?_, heap_lt h1, heap_lt h2, heap_lt h3⟩ <;> simp [World.cell?, World.frozen?, h1, h2, h3]
theorem LS.go (h : LS w0 B0 Bw Bb Bl P f G A n ca pn cs fr vC vD Lk v b X) (hk : Kp (ownB vD) X X') (hd : Row X' 3 1 vD n (ivals (List.replicate n (-1)))) (hw : Web X' P f G A n ca pn cs fr vC vD n Lk) : LS w0 B0 Bw Bb Bl P f G A n ca pn cs fr vC vD Lk v b X' := by
  have hB : ∀ {t : Nat} {cur : Array Value} {e : TypeId}, X.heap[t]? = some (.cells cur e (0, 0)) → e ≠ 3 → X'.heap[t]? = X.heap[t]? := fun {t cur e} h1 he => hk.block t (heap_lt h1) fun hm => by
    obtain ⟨c2, h2⟩ := h.rd.type t hm
    exact type_ne h1 h2 he rfl
  refine ⟨hw, hd, (hB h.bw (by decide)).trans h.bw, (hk.block Bb (heap_lt h.bb) h.ne).trans h.bb, (hB h.bl (by decide)).trans h.bl, h.rl.kp hk fun t ht hm => ?_, h.dl, h.vl, h.l1, h.l2, Nat.le_trans h.l3 hk.size, h.ne, h.be.trans (hk.below h.be.size h.o3), h.o1, h.o2, h.o3⟩
  have := h.vl t ht; have := h.dl t hm; omega
theorem LS.grow (h : LS w0 B0 Bw Bb Bl P f G A n ca pn cs fr vC vD Lk v b X) (hb : Below X.heap.size X X') : LS w0 B0 Bw Bb Bl P f G A n ca pn cs fr vC vD Lk v b X' :=
  h.go (Kp.of_below hb) (h.rd.keep fun b hb2 => hb.block b (h.rd.lt b hb2)) (h.web.below hb)
theorem box_set {X : World} {t : Nat} {T : TypeId} {u : Value} (h : X.heap[t]? = some (.cells #[u] T (0, 0))) (v : Value) : (X.setCell ⟨t, 0, none⟩ v).heap[t]? = some (.cells #[v] T (0, 0)) := by
  simp [World.setCell, Array.getElem?_modify, h]
theorem LS.put (h : LS w0 B0 Bw Bb Bl P f G A n ca pn cs fr vC vD Lk v b X) (hr : Row X 3 1 v' b'.2.length (ivals b'.2)) (hv : ∀ t ∈ ownB v', B0 ≤ t) : LS w0 B0 Bw Bb Bl P f G A n ca pn cs fr vC vD Lk v' b' ((X.setCell ⟨Bb, 0, none⟩ (.int .i64 b'.1)).setCell ⟨Bl, 0, none⟩ v') := by
  have hne : Bb ≠ Bl := type_ne h.bb h.bl (by decide)
  have hk : ∀ t, t ≠ Bb → t ≠ Bl → ((X.setCell ⟨Bb, 0, none⟩ (.int .i64 b'.1)).setCell ⟨Bl, 0, none⟩ v').heap[t]? = X.heap[t]? := fun t h1 h2 => (Below.heap_setCell _ _ _ t h2).trans (Below.heap_setCell _ _ _ t h1)
  have hw : ∀ t, webB P f G vC n t → t ≠ Bb ∧ t ≠ Bl := fun t ht => ⟨fun e => by subst e; exact h.web.noInt ht h.bb (by decide), fun e => by subst e; exact h.web.noInt ht h.bl (by decide)⟩
  refine ⟨h.web.keep fun t ht => hk t (hw t ht).1 (hw t ht).2, h.rd.keep fun t ht => hk t (fun e => h.ne (e ▸ ht)) (fun e => ?_), (hk Bw (type_ne h.bw h.bb (by decide)) (type_ne h.bw h.bl (by decide))).trans h.bw, ?_, ?_, hr.keep fun t ht => hk t (fun e => ?_) (fun e => ?_), h.dl, hv, h.l1, h.l2,
    by have := h.l3; simpa using this, h.ne, (h.be.setCell (p := ⟨Bb, 0, none⟩) h.o1 _).setCell (p := ⟨Bl, 0, none⟩) h.o2 _, h.o1, h.o2, h.o3⟩
  · obtain ⟨c2, h2⟩ := h.rd.type t ht
    exact type_ne h2 h.bl (by decide) e
  · refine (Below.heap_setCell _ _ _ Bb hne).trans ?_
    simp [World.setCell, Array.getElem?_modify, h.bb]
  · exact box_set ((Below.heap_setCell _ _ _ Bl hne.symm).trans h.bl) v'
  · have := hv t ht; have := h.l1; omega
  · have := hv t ht; have := h.l2; omega
end
section
variable (w0 : World) (B0 Bw Bb Bl P f : Nat) (G : Nat → Nat) (A : Option Addr) (n ca : Nat) (pn : Int → Nat) (cs : List Int) (fr : Nat) (vC vD v : Value) (Lk : Pt → Pt) (b : Int × List Int) (w : World)
set_option maxHeartbeats 2000000 in
theorem try_is (c : Int) (H : Hid (LS w0 B0 Bw Bb Bl P f G A n ca pn cs fr vC vD Lk v b w)) (HA : Hid (∀ Z, Below w0.heap.size w0 Z → IntsRd Z A cs)) (hn : n = cs.length) (hn2 : n ≤ 10000) (hfr : fr ≤ 100) (h7 : ∀ a, pn a ≤ 7)
    (hp : Hid (isPt pn cs fr (c, 0) = true)) (hL : Hid (∀ q, isPt pn cs fr q = true → isPt pn cs fr (Lk q) = true)) (hcl : (codeN pn cs Lk (c, 0)).length ≤ 100000) (hbl : b.2.length ≤ 100000) :
    Calls Tryd.prog 93 #[.int .i64 c, .pointer (some ⟨Bw, 0, none⟩), .pointer (some ⟨Bb, 0, none⟩), .pointer (some ⟨Bl, 0, none⟩)] w fun e w' => e = .returned (.tuple #[]) ∧ ∃ v', LS w0 B0 Bw Bb Bl P f G A n ca pn cs fr vC vD Lk v' (leastS (fun c => codeN pn cs Lk (c, 0)) b c) w' := by
  obtain ⟨b0, b1, b2, b3, b4, b5, b6, b7⟩ := H.out.cells
  have HA2 : Hid (∀ Z, Kp (ownB vD) w Z → IntsRd Z A cs) := fun Z hk => HA.out Z (H.out.be.trans (hk.below H.out.be.size H.out.o3))
  have HN := Lib.hid hn
  clear hn
  have HWb := Lib.hid H.out.web
  have HD := Lib.hid H.out.rd
  go_enter Tryd.func93, Tryd.ntmps93
  go_upto_region 1 with (go_at_call 89
                         refine (web_from P f G A n ca pn cs fr vC vD Lk _ (c, 0) HWb HD HA2 HN.out hn2 hfr h7 hp hL).mono ?_
                         rintro e w3 ⟨v3, rfl, hr, hw3, hd3, hk3, hlo3⟩
                         obtain ⟨V, c3, rfl, hc3⟩ := hr.len
                         have H3 := Lib.hid (H.out.go hk3 hd3 hw3)
                         have HR3 := Lib.hid hr
                         have HV3 : Hid (∀ t ∈ ownB (.slice V (codeN pn cs Lk (c, 0)).length c3), B0 ≤ t) := fun t ht => Nat.le_trans H.out.l3 (hlo3 t ht)
                         clear hr hw3 hd3 hk3 hlo3)
  clear b0 b1 b2 b3 b4 b5 b6 b7
  obtain ⟨b0, b1, b2, b3, b4, b5, b6, b7⟩ := H3.out.cells
  have hne : Bb ≠ Bl := type_ne H3.out.bb H3.out.bl (by decide)
  obtain ⟨b_1, b_2⟩ := b
  have HLS : Hid (leastS (fun c => codeN pn cs Lk (c, 0)) (b_1, b_2) c = if b_1 < 0 ∨ cmpN (codeN pn cs Lk (c, 0)) b_2 < 0 then (c, codeN pn cs Lk (c, 0)) else (b_1, b_2)) := Lib.hid rfl
  dsimp only at b1 hbl
  by_cases h : b_1 < 0
  · have hA9 := Lib.hid (H3.out.put (b' := (c, codeN pn cs Lk (c, 0))) HR3.out HV3.out)
    go_wp2_with fail
    exact bodyPost_end (results_none rfl _ _ _) rfl ⟨rfl, _, by rw [HLS.out, if_pos (.inl h)]; exact hA9.out⟩
  · obtain ⟨V2, c2, rfl, hc2⟩ := H3.out.rl.len
    have HI1 := Lib.hid HR3.out.ints
    have HI2 := Lib.hid H3.out.rl.ints
    by_cases h2 : cmpN (codeN pn cs Lk (c, 0)) b_2 < 0
    · have HH := Lib.hid h2
      generalize hm : cmpN (codeN pn cs Lk (c, 0)) b_2 = m at h2
      have HM := Lib.hid hm
      clear hm
      go_wp2_with (go_at_call 94
                   refine (compare_is V V2 _ _ c3 c2 (codeN pn cs Lk (c, 0)) b_2 _ rfl rfl hcl hbl HI1 HI2).mono ?_
                   rintro e w4 ⟨rfl, hb4⟩
                   rw [HM.out]
                   have h4 := H3.out.grow hb4
                   obtain ⟨b0, b1, b2, b3, b4, b5, b6, b7⟩ := h4.cells
                   have hA9 := Lib.hid (h4.put (b' := (c, codeN pn cs Lk (c, 0))) (HR3.out.keep fun t ht => hb4.block t (HR3.out.lt t ht)) HV3.out)
                   clear h4 hb4)
      exact bodyPost_end (results_none rfl _ _ _) rfl ⟨rfl, _, by rw [HLS.out, if_pos (.inr HH.out)]; exact hA9.out⟩
    · have HH := Lib.hid h2
      generalize hm : cmpN (codeN pn cs Lk (c, 0)) b_2 = m at h2
      have HM := Lib.hid hm
      clear hm
      go_wp2_with (go_at_call 94
                   refine (compare_is V V2 _ _ c3 c2 (codeN pn cs Lk (c, 0)) b_2 _ rfl rfl hcl hbl HI1 HI2).mono ?_
                   rintro e w4 ⟨rfl, hb4⟩
                   rw [HM.out]
                   have hA9 := Lib.hid (H3.out.grow hb4)
                   clear hb4)
      exact bodyPost_end (results_none rfl _ _ _) rfl ⟨rfl, _, by rw [HLS.out, if_neg (fun e => e.elim (fun h' => by omega) (fun h' => absurd h' (Int.not_lt.2 HH.out)))]; exact hA9.out⟩
end
section
variable (A : Option Addr) (n cap : Nat) (L : List (ByteArray × Int)) (VA VB VI : Option Addr) (ca cb m ci : Nat) (cells : List Int) (free : Int) (W : List (Pt × Pt)) (ids : List Int) (w : World)
set_option maxHeartbeats 2000000 in
theorem code_least_nil (hn : n = L.length) (hcap : L.length ≤ cap) (HL : Hid (AgRd w A L)) (hl : L.length ≤ maxLen) (HC : Hid (IntsRd w VA cells)) (HW : Hid (WrRd w VB W)) (hc : cells.length ≤ 10000) (hw : W.length ≤ 40000)
    (hk : (netChk (pnL L) L.length (chk L) cells free W).1 = 0) :
    Calls Tryd.prog 45 #[.slice A n cap, netV VA ca cells free VB cb W, .slice VI 0 ci] w fun e w' => e = .returned (.tuple #[.int .i64 0, .slice none 0 0, .int .i64 1]) ∧ Below w.heap.size w w' := by
  subst hn
  obtain ⟨hz, hc4, hf0, hf64, hag, hok⟩ := netChk_ok hk
  obtain ⟨f, rfl⟩ := Int.eq_ofNat_of_zero_le hf0
  have hs := chk_sig hz
  have hp7 := pnL_le hs
  have HK := Lib.hid hk
  have HOk : Hid (NetOk (pnL L) cells f W) := hok
  have HAg := Lib.hid hag
  have HS := Lib.hid hs
  clear hk hok hz hag hs
  go_enter Tryd.func45, Tryd.ntmps45
  go_upto_region 1 with fail
  refine absW (fun X => Below w.heap.size w X ∧ NBox X w.heap.size VA cells.length ca f VB W.length cb) ⟨by (repeat (first | exact Below.refl _ _ | (with_reducible refine Below.drew ?_) | (with_reducible refine Below.alloc ?_ (by (try simp); (try omega)) _) | (with_reducible refine Below.setCell ?_ (by (try simp); (try omega)) _) | (with_reducible refine Below.trans ?_ (Below.mono (by assumption) (by (try simp); (try omega)))))), ⟨by simp, by go_simp, by go_simp, by go_simp⟩⟩ ?_
  rintro X ⟨hbx, hnb⟩
  have n0 := hnb.c0
  have n1 := hnb.c1
  have n2 := hnb.c2
  have hzy := hnb.lt
  have HX := Lib.hid (And.intro hbx hnb)
  clear hbx hnb
  go_wp2_with (go_at_call 23
               refine (net_check A _ cap L VA VB ca cb cells f W _ rfl hcap (Lib.hid (HL.out.below HX.out.1)) hl (Lib.hid (HC.out.below HX.out.1)) (Lib.hid (HW.out.below HX.out.1)) hc hw).mono ?_
               rintro e w1 ⟨rfl, hb1⟩
               rw [HK.out]
               have hnb := HX.out.2.below hb1
               have n0 := hnb.c0
               have n1 := hnb.c1
               have n2 := hnb.c2
               have hz1 := hnb.lt
               have HB1 := Lib.hid (HX.out.1.trans (hb1.mono HX.out.1.size))
               have HN1 := Lib.hid hnb
               clear hb1 hnb)
  exact bodyPost_ret (v := .tuple #[.int .i64 0, .slice none 0 0, .int .i64 1]) (by simp only [results, Tryd.results45]; go_simp) rfl ⟨rfl, HB1.out⟩
set_option maxHeartbeats 4000000 in
theorem code_least (hn : n = L.length) (hcap : L.length ≤ cap) (HL : Hid (AgRd w A L)) (hl : L.length ≤ maxLen) (HC : Hid (IntsRd w VA cells)) (HW : Hid (WrRd w VB W)) (hc : cells.length ≤ 10000) (hw : W.length ≤ 40000)
    (hk : (netChk (pnL L) L.length (chk L) cells free W).1 = 0) (HI : Hid (IntsRd w VI ids)) (hm : m = ids.length) (hm0 : 0 < m) (hm2 : m ≤ 100000) (hr : Hid (∀ i, i < ids.length → 0 ≤ ids.getD i 0 ∧ ids.getD i 0 < cells.length)) :
    Calls Tryd.prog 45 #[.slice A n cap, netV VA ca cells free VB cb W, .slice VI m ci] w fun e w' => ∃ V c, e = .returned (.tuple #[.int .i64 (leastN (fun c => codeN (pnL L) cells (lkM W) (c, 0)) ids).1, .slice V (leastN (fun c => codeN (pnL L) cells (lkM W) (c, 0)) ids).2.length c, .int .i64 0]) ∧
      Fresh w w' 3 1 (leastN (fun c => codeN (pnL L) cells (lkM W) (c, 0)) ids).2.length (.slice V (leastN (fun c => codeN (pnL L) cells (lkM W) (c, 0)) ids).2.length c) (ivals (leastN (fun c => codeN (pnL L) cells (lkM W) (c, 0)) ids).2) := by
  subst hm
  subst hn
  obtain ⟨hz, hc4, hf0, hf64, hag, hok⟩ := netChk_ok hk
  obtain ⟨f, rfl⟩ := Int.eq_ofNat_of_zero_le hf0
  have hs := chk_sig hz
  have hp7 := pnL_le hs
  have HK := Lib.hid hk
  have HOk : Hid (NetOk (pnL L) cells f W) := hok
  have HAg := Lib.hid hag
  have HS := Lib.hid hs
  clear hk hok hz hag hs
  go_enter Tryd.func45, Tryd.ntmps45
  go_upto_region 1 with fail
  refine absW (fun X => Below w.heap.size w X ∧ NBox X w.heap.size VA cells.length ca f VB W.length cb) ⟨by (repeat (first | exact Below.refl _ _ | (with_reducible refine Below.drew ?_) | (with_reducible refine Below.alloc ?_ (by (try simp); (try omega)) _) | (with_reducible refine Below.setCell ?_ (by (try simp); (try omega)) _) | (with_reducible refine Below.trans ?_ (Below.mono (by assumption) (by (try simp); (try omega)))))), ⟨by simp, by go_simp, by go_simp, by go_simp⟩⟩ ?_
  rintro X ⟨hbx, hnb⟩
  have n0 := hnb.c0
  have n1 := hnb.c1
  have n2 := hnb.c2
  have hzy := hnb.lt
  have HX := Lib.hid (And.intro hbx hnb)
  clear hbx hnb
  have hne : ¬ ((ids.length : Int) = 0) := by omega
  have HLk : Hid (∀ q, isPt (pnL L) cells f q = true → isPt (pnL L) cells f (lkM W q) = true) := fun q hq => (lkM_eq HOk.out hq).2
  have HPt : Hid (∀ i, i < ids.length → isPt (pnL L) cells f (ids.getD i 0, 0) = true) := fun i hi => by
    obtain ⟨h1, h2⟩ := hr.out i hi
    obtain ⟨c, hc⟩ := Int.eq_ofNat_of_zero_le h1
    rw [hc]
    have h3 := HAg.out c (by omega)
    have h4 := pnL_in HS.out h3.1 h3.2
    have h5 := HS.out.ar (cells.getD c 0).toNat (by omega)
    exact isPt_cell (s := 0) f (by omega) (by omega)
  have HLen : Hid (∀ c, isPt (pnL L) cells f (c, 0) = true → (codeN (pnL L) cells (lkM W) (c, 0)).length ≤ 100000) := fun c hp => by
    have := codeN_len (pn := pnL L) (cs := cells) (Lk := lkM W) (p := (c, 0)) hp7 (lkM_lt HOk.out) (isPt_lt (startP_is HOk.out hp))
    omega
  go_upto_region 6 with (go_at_call 23
                         refine (net_check A _ cap L VA VB ca cb cells f W _ rfl hcap (Lib.hid (HL.out.below HX.out.1)) hl (Lib.hid (HC.out.below HX.out.1)) (Lib.hid (HW.out.below HX.out.1)) hc hw).mono ?_
                         rintro e w1 ⟨rfl, hb1⟩
                         rw [HK.out]
                         have hnb := HX.out.2.below hb1
                         have n0 := hnb.c0
                         have n1 := hnb.c1
                         have n2 := hnb.c2
                         have hz1 := hnb.lt
                         have HB1 := Lib.hid (HX.out.1.trans (hb1.mono HX.out.1.size))
                         have HN1 := Lib.hid hnb
                         clear hb1 hnb)
  have he0 : ((ids.length : Int) == 0) = false := by rw [beq_eq_false_iff_ne]; omega
  simp only [he0]
  clear hne hm0 he0
  go_wp2_with fail
  go_loopw [12, 33] (fun _ i wr => ∃ k : Nat, i = .int .i64 k ∧ k ≤ ids.length ∧ Hid (Below w1.heap.size w1 wr)) (fun _ i _ => ids.length - (intOf i).toNat)
  case atStart => exact ⟨0, rfl, by omega, Below.refl _ _⟩
  case round =>
    obtain ⟨k, rfl, hkl, HBr⟩ := hrel
    have hnb := HN1.out.below HBr.out
    have n0 := hnb.c0
    have n1 := hnb.c1
    have n2 := hnb.c2
    have hz2 := hnb.lt
    have HB2 := Lib.hid (HB1.out.trans (HBr.out.mono HB1.out.size))
    have HN2 := Lib.hid hnb
    clear hnb
    by_cases hlt : k < ids.length
    · obtain ⟨b, off, rfl, hb, e0⟩ := HI.out k hlt
      have d0 := (HB2.out.cell (p := ⟨b, off + k, none⟩) hb).trans e0
      have hbl := Nat.lt_of_lt_of_le hb HB2.out.size
      obtain ⟨h1, h2⟩ := hr.out k hlt
      generalize ids.getD k 0 = x at d0 h1 h2 e0
      clear e0
      go_wp2_with fail
      go_roundw
      case rel => exact ⟨k + 1, by go_num, by omega, HBr⟩
      case measure => simp [intOf]; omega
    · obtain rfl : k = ids.length := by omega
      clear hlt hkl
      go_upto_region 13 with (go_at_call 88
                              refine (code_look A _ cap L VA VB ca cb cells f W _ rfl (Lib.hid (HL.out.below HB2.out)) HS.out (Lib.hid (HC.out.below HB2.out)) (Lib.hid (HW.out.below HB2.out)) (by omega) (by omega) hw HAg HOk).mono ?_
                              rintro e w2 ⟨P, fb, G, vC, vD, rfl, hwb, hd, hb2, hlo, hloD⟩)
      have hA : ∀ o : Obj, Below w2.heap.size w2 (w2.alloc o) := fun o => (Below.refl _ _).alloc (Nat.le_refl _) _
      have hbB : Below w2.heap.size w2 (((w2.alloc (.cells #[.pointer (some ⟨P, 0, none⟩)] 133)).alloc (.cells #[.int .i64 (-1)] 3)).alloc (.cells #[.slice none 0 0] 137)) := ((hA _).alloc (by simp) _).alloc (by simp; omega) _
      have HLS : Hid (LS w (w2.heap.size + 3) w2.heap.size (w2.heap.size + 1) (w2.heap.size + 2) P fb G VA cells.length ca (pnL L) cells f vC vD (lkM W) (.slice none 0 0) (-1, []) (((w2.alloc (.cells #[.pointer (some ⟨P, 0, none⟩)] 133)).alloc (.cells #[.int .i64 (-1)] 3)).alloc (.cells #[.slice none 0 0] 137))) := by
        obtain ⟨h1, h2, h3⟩ := heapW3 w2 (.cells #[.pointer (some ⟨P, 0, none⟩)] 133) (.cells #[.int .i64 (-1)] 3) (.cells #[.slice none 0 0] 137)
        have hdl : ∀ b ∈ ownB vD, b < w2.heap.size := fun b hb => hd.lt b hb
        have hs2 := hb2.size
        have hs1 := HB2.out.size
        refine ⟨(hwb.congr rfl fun q hq => (lkM_eq HOk.out hq).1).below hbB, hd.keep fun b hb => hbB.block b (hdl b hb), h1, h2, h3, Row.nil _ _ _, fun b hb => ?_, by simp [ownB], by omega, by omega, by simp, fun hm => ?_, (HB2.out.trans (hb2.mono HB2.out.size)).trans (hbB.mono (by omega)), by omega, by omega, fun b hb => ?_⟩
        · have := hdl b hb; omega
        · have := hdl _ hm; omega
        · have := hloD b hb; omega
      clear hA hbB hwb hd hlo hloD hb2 n0 n1 n2
      go_upto_region 14 with fail
      refine absW (fun Y => LS w (w2.heap.size + 3) w2.heap.size (w2.heap.size + 1) (w2.heap.size + 2) P fb G VA cells.length ca (pnL L) cells f vC vD (lkM W) (.slice none 0 0) (-1, []) Y) HLS.out ?_
      intro Y hY
      have HY := Lib.hid hY
      clear hY HLS
      have HAA : Hid (∀ Z, Below w.heap.size w Z → IntsRd Z VA cells) := fun Z hz => HC.out.below hz
      go_wp2_with fail
      go_loopw [18, 53] (fun _ i wr => ∃ k : Nat, ∃ v, i = .int .i64 k ∧ k ≤ ids.length ∧ Hid (LS w (w2.heap.size + 3) w2.heap.size (w2.heap.size + 1) (w2.heap.size + 2) P fb G VA cells.length ca (pnL L) cells f vC vD (lkM W) v (leastN (fun c => codeN (pnL L) cells (lkM W) (c, 0)) (ids.take k)) wr)) (fun _ i _ => ids.length - (intOf i).toNat)
      case atStart => exact ⟨0, _, rfl, by omega, HY⟩
      case round =>
        obtain ⟨k, v, rfl, hkl, HR⟩ := hrel
        clear HY
        by_cases hlt : k < ids.length
        · obtain ⟨b, off, rfl, hb, e0⟩ := HI.out k hlt
          have d0 := (HR.out.be.cell (p := ⟨b, off + k, none⟩) hb).trans e0
          have hbl := Nat.lt_of_lt_of_le hb HR.out.be.size
          have hp := HPt.out k hlt
          have HSn := Lib.hid (leastN_snoc (code := fun c => codeN (pnL L) cells (lkM W) (c, 0)) hlt)
          have hcl := HLen.out _ hp
          have HP := Lib.hid hp
          have hll : (leastN (fun c => codeN (pnL L) cells (lkM W) (c, 0)) (ids.take k)).2.length ≤ 100000 := leastN_len fun c hc => by
            obtain ⟨i, hi, rfl⟩ := List.mem_iff_getElem.1 (List.mem_of_mem_take hc)
            have := HLen.out (ids.getD i 0) (HPt.out i hi)
            rwa [List.getD_eq_getElem?_getD, List.getElem?_eq_getElem hi] at this
          generalize ids.getD k 0 = x at d0 e0 HSn hcl HP
          clear e0 hp
          go_wp2_with (go_at_call 93
                       refine (try_is w (w2.heap.size + 3) w2.heap.size (w2.heap.size + 1) (w2.heap.size + 2) P fb G VA _ ca (pnL L) cells f vC vD v (lkM W) _ _ x HR HAA rfl (by omega) (by omega) hp7 HP HLk hcl hll).mono ?_
                       rintro e w5 ⟨rfl, v5, h5⟩
                       have H5 := Lib.hid h5
                       clear h5)
          go_roundw
          case rel => exact ⟨k + 1, v5, by go_num, by omega, by rw [HSn.out]; exact H5⟩
          case measure => simp [intOf]; omega
        · obtain rfl : k = ids.length := by omega
          obtain ⟨b0, b1, b2, b3, b4, b5, b6, b7⟩ := HR.out.cells
          obtain ⟨V, c5, rfl, hc5⟩ := HR.out.rl.len
          rw [List.take_length] at *
          clear hlt hkl
          go_wp2_with fail
          (refine region_still (by kernel_rfl) (by kernel_rfl) ?_; repeat still_step; try refine wpStill_nil ?_)
          go_wp2_with fail
          exact bodyPost_ret (v := .tuple #[.int .i64 (leastN (fun c => codeN (pnL L) cells (lkM W) (c, 0)) ids).1, .slice V (leastN (fun c => codeN (pnL L) cells (lkM W) (c, 0)) ids).2.length c5, .int .i64 0]) (by simp only [results, Tryd.results45]; go_simp) rfl ⟨V, c5, rfl, HR.out.rl.drew, fun b hb => by have h1 := HR.out.vl b hb; have h2 := HR.out.o1; omega, HR.out.be.drew⟩
end
end Go.Proofs.YtkonfogebepccaaDoor
