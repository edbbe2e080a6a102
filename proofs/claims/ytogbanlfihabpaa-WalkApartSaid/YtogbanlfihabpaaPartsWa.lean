/-
  walk.Parts: its two loops.
-/
import Derived.Test.YtogbanlfihabpaaTakeF
import Derived.Test.YtogbanlfihabpaaSamePlain
import Derived.Deep.LoopGhost
/-
  Plain: the numbers that walk.Parts writes beside its cells and free ports say which parts there are.
-/
/-
  Plain: a free port's part as 'take' decides it.
-/
namespace Go.Proofs.Ytogbanlfihabpaa
open Go.RowKit
set_option linter.unusedVariables false
theorem wlk_start {pn : Int → Nat} {cs : List Int} {Lk : Pt → Pt} {p : Pt} (h : 0 ≤ (startP Lk p).1) : (startP Lk p).1 ∈ wlk pn cs Lk p := by
  unfold wlk walkL
  obtain ⟨r, hr⟩ := walkF_pre (rowP pn cs Lk) (cs.length + 1) 0 (addC [] (startP Lk p).1)
  rw [← hr]
  unfold addC
  rw [if_pos ⟨h, by simp⟩]
  simp
theorem wlk_none {pn : Int → Nat} {cs : List Int} {Lk : Pt → Pt} {p : Pt} (h : (startP Lk p).1 < 0) : wlk pn cs Lk p = [] := by
  unfold wlk walkL
  rw [addC_neg h, walkF_done (by simp)]
theorem lkM_inv {pn : Int → Nat} {cells : List Int} {f : Nat} {W : List (Pt × Pt)} (h : NetOk pn cells f W) {p : Pt} (hp : isPt pn cells f p = true) : lkM W (lkM W p) = p := by
  obtain ⟨q, h1, h2⟩ := h.lnk hp
  have e : lkM W p = q := by simp [lkM, h1]
  have h3 := lnk_sym h.nodup h1
  rw [e]
  simp [lkM, h3]
theorem frC_code {pn : Int → Nat} {cells : List Int} {f : Nat} {W : List (Pt × Pt)} (h : NetOk pn cells f W) {p : Pt} (hp : isPt pn cells f p = true) {i : Nat} (hi : i < f) :
    ((0 ≤ (lkM W (-1, (i : Int))).1 ∧ (lkM W (-1, (i : Int))).1 ∈ wlk pn cells (lkM W) p) ∨ p = (-1, (i : Int)) ∨ (lkM W (-1, (i : Int)) = p ∧ (lkM W (-1, (i : Int))).1 < 0)) ↔ frC (lkM W) p (wlk pn cells (lkM W) p) i = true := by
  have hpi : isPt pn cells f (-1, (i : Int)) = true := by simp [isPt, hi]
  have hinv := lkM_inv h hpi
  unfold frC
  rw [decide_eq_true_iff]
  constructor
  · rintro (h1 | h1 | ⟨h1, h2⟩)
    · exact .inl h1
    · have hst : startP (lkM W) p = lkM W (-1, (i : Int)) := by unfold startP; rw [h1, if_pos (by show (-1 : Int) < 0; decide)]
      by_cases h0 : 0 ≤ (lkM W (-1, (i : Int))).1
      · left
        refine ⟨h0, ?_⟩
        have := wlk_start (pn := pn) (cs := cells) (Lk := lkM W) (p := p) (by rw [hst]; exact h0)
        rw [hst] at this; exact this
      · right
        exact ⟨wlk_none (by rw [hst]; omega), .inl h1.symm⟩
    · right
      refine ⟨wlk_none ?_, .inr h1⟩
      have hst : startP (lkM W) p = (-1, (i : Int)) := by
        unfold startP
        rw [← h1, if_pos h2, hinv]
      rw [hst]; show (-1 : Int) < 0; decide
  · rintro (h1 | ⟨h1, h2 | h2⟩)
    · exact .inl h1
    · exact .inr (.inl h2.symm)
    · by_cases h0 : 0 ≤ (lkM W (-1, (i : Int))).1
      · exfalso
        have hst : startP (lkM W) p = p := by unfold startP; rw [if_neg (by rw [← h2]; omega)]
        have := wlk_start (pn := pn) (cs := cells) (Lk := lkM W) (p := p) (by rw [hst, ← h2]; exact h0)
        rw [h1] at this; cases this
      · exact .inr (.inr ⟨h2, by omega⟩)
end Go.Proofs.Ytogbanlfihabpaa
namespace Go.Proofs.Ytogbanlfihabpaa
open Go.RowKit
set_option linter.unusedVariables false
/-- ofs, frs: what is written beside the cells and the free ports when the parts Q are there. -/
structure PtM (ofs frs : List Int) (Q : List Pa) (n f : Nat) : Prop where
  ol : ofs.length = n
  fl : frs.length = f
  o : ∀ c, c < n → 0 ≤ ofs.getD c 0 ∧ ofs.getD c 0 ≤ Q.length ∧ (ofs.getD c 0 = 0 ↔ ¬ ∃ q ∈ Q, (c : Int) ∈ q.1)
  f : ∀ i, i < f → 0 ≤ frs.getD i 0 ∧ frs.getD i 0 ≤ Q.length ∧ (frs.getD i 0 = 0 ↔ ¬ ∃ q ∈ Q, (i : Int) ∈ q.2)
section
variable {ofs frs : List Int} {Q : List Pa} {n f : Nat} {wl : List Int} {Lk : Pt → Pt} {p : Pt}
theorem PtM.start (n f : Nat) : PtM (List.replicate n 0) (List.replicate f 0) [] n f :=
  ⟨by simp, by simp, fun c hc => by simp [List.getD_eq_getElem?_getD, hc], fun c hc => by simp [List.getD_eq_getElem?_getD, hc]⟩
theorem PtM.step (h : PtM ofs frs Q n f) (hwl : Fnd n wl) (Lk : Pt → Pt) (p : Pt) :
    PtM (setAll ofs ((Q.length + 1 : Nat) : Int) wl) (setAll frs ((Q.length : Int) + 1) (frL f Lk p wl)) (Q ++ [(srtC n wl, frL f Lk p wl)]) n f := by
  refine ⟨by rw [setAll_len, h.ol], by rw [setAll_len, h.fl], fun c hc => ?_, fun i hi => ?_⟩
  · obtain ⟨h1, h2, h3⟩ := h.o c hc
    rw [setAll_at (fun x hx => (hwl.lt x hx).1) (by rw [h.ol]; exact hc)]
    have hm : (∃ q ∈ Q ++ [(srtC n wl, frL f Lk p wl)], (c : Int) ∈ q.1) ↔ (∃ q ∈ Q, (c : Int) ∈ q.1) ∨ (c : Int) ∈ wl := by
      constructor
      · rintro ⟨q, hq, hc2⟩
        rcases List.mem_append.1 hq with hq | hq
        · exact .inl ⟨q, hq, hc2⟩
        · simp at hq; subst hq
          exact .inr (srtC_mem.1 hc2).1
      · rintro (⟨q, hq, hc2⟩ | hc2)
        · exact ⟨q, List.mem_append_left _ hq, hc2⟩
        · exact ⟨(srtC n wl, frL f Lk p wl), List.mem_append_right _ (by simp), srtC_mem.2 ⟨hc2, by omega, by omega⟩⟩
    rw [hm, List.length_append, List.length_singleton]
    by_cases hw : (c : Int) ∈ wl
    · simp only [hw, if_true, or_true, not_true, iff_false]
      omega
    · simp only [hw, if_false, or_false]
      exact ⟨h1, by omega, h3⟩
  · obtain ⟨h1, h2, h3⟩ := h.f i hi
    rw [setAll_at (fun x hx => (frL_lt hx).1) (by rw [h.fl]; exact hi)]
    have hm : (∃ q ∈ Q ++ [(srtC n wl, frL f Lk p wl)], (i : Int) ∈ q.2) ↔ (∃ q ∈ Q, (i : Int) ∈ q.2) ∨ (i : Int) ∈ frL f Lk p wl := by
      constructor
      · rintro ⟨q, hq, hc2⟩
        rcases List.mem_append.1 hq with hq | hq
        · exact .inl ⟨q, hq, hc2⟩
        · simp at hq; subst hq
          exact .inr hc2
      · rintro (⟨q, hq, hc2⟩ | hc2)
        · exact ⟨q, List.mem_append_left _ hq, hc2⟩
        · exact ⟨(srtC n wl, frL f Lk p wl), List.mem_append_right _ (by simp), hc2⟩
    rw [hm, List.length_append, List.length_singleton]
    by_cases hw : (i : Int) ∈ frL f Lk p wl
    · simp only [hw, if_true, or_true, not_true, iff_false]
      omega
    · simp only [hw, if_false, or_false]
      exact ⟨h1, by omega, h3⟩
/-- A cell's number is nought where no part has it. -/
theorem PtM.cell (h : PtM ofs frs Q n f) {c : Nat} (hc : c < n) : ofs.getD c 0 = 0 ↔ ¬ inPa Q ((c : Int), 0) := by
  rw [(h.o c hc).2.2]
  unfold inPa
  rw [if_neg (by show ¬ (c : Int) < 0; omega)]
theorem PtM.free (h : PtM ofs frs Q n f) {i : Nat} (hi : i < f) : frs.getD i 0 = 0 ↔ ¬ inPa Q (-1, (i : Int)) := by
  rw [(h.f i hi).2.2]
  unfold inPa
  rw [if_pos (by show (-1 : Int) < 0; decide)]
end
/-- A part has the port that it was found from. -/
theorem partOf_has {pn : Int → Nat} {cells : List Int} {f : Nat} {W : List (Pt × Pt)} (h : NetOk pn cells f W) {p : Pt} (hp : isPt pn cells f p = true) (l : List Pa) : inPa (l ++ [partOf pn cells f (lkM W) p]) p := by
  unfold inPa
  by_cases h0 : p.1 < 0
  · rw [if_pos h0]
    obtain ⟨e1, e2, e3⟩ := isPt_free hp h0
    obtain ⟨i, hi⟩ := Int.eq_ofNat_of_zero_le e2
    have hpi : p = (-1, (i : Int)) := by rw [← hi]; exact Prod.ext e1 rfl
    refine ⟨partOf pn cells f (lkM W) p, List.mem_append_right _ (by simp), ?_⟩
    show p.2 ∈ frL f (lkM W) p (wlk pn cells (lkM W) p)
    rw [hi]
    exact (frL_mem (by omega)).2 ((frC_code h hp (by omega)).1 (.inr (.inl hpi)))
  · rw [if_neg h0]
    refine ⟨partOf pn cells f (lkM W) p, List.mem_append_right _ (by simp), ?_⟩
    have hst : startP (lkM W) p = p := by unfold startP; rw [if_neg h0]
    have h1 := wlk_start (pn := pn) (cs := cells) (Lk := lkM W) (p := p) (by rw [hst]; omega)
    rw [hst] at h1
    exact srtC_mem.2 ⟨h1, by omega, isPt_lt hp⟩
end Go.Proofs.Ytogbanlfihabpaa
namespace Go.Proofs.Ytogbanlfihabpaa
open Go.RowKit
attribute [local go_sem] cell_set
attribute [local go_sem] Oper.semAt_some
set_option maxRecDepth 100000
set_option linter.unusedVariables false
noncomputable def ptT (n : Nat) : Code := ((Try.f7.body).bind (tailQ n)).getD .skip
def FrPT (ds : List Deferred) (U : Nat → Value) : Act := { tmps := (U 0 :: U 1 :: U 2 :: U 3 :: U 4 :: U 5 :: U 6 :: U 7 :: U 8 :: U 9 :: U 10 :: U 11 :: U 12 :: U 13 :: U 14 :: U 15 :: U 16 :: U 17 :: U 18 :: U 19 :: U 20 :: U 21 :: U 22 :: U 23 :: U 24 :: U 25 :: U 26 :: U 27 :: U 28 :: U 29 :: U 30 :: U 31 :: U 32 :: U 33 :: U 34 :: U 35 :: U 36 :: U 37 :: U 38 :: U 39 :: U 40 :: U 41 :: U 42 :: U 43 :: U 44 :: U 45 :: U 46 :: U 47 :: U 48 :: U 49 :: U 50 :: U 51 :: U 52 :: U 53 :: U 54 :: U 55 :: U 56 :: U 57 :: U 58 :: U 59 :: U 60 :: U 61 :: U 62 :: U 63 :: U 64 :: U 65 :: U 66 :: U 67 :: []).toArray, defers := ds }
theorem FrN.openPT {ds : List Deferred} {L : List (Nat × Value)} {a : Act} (h : FrN 68 ds L a) : ∃ U, a = FrPT ds U ∧ Us U L := h.open_
/-- walk.Parts at work: its parts so far, and the numbers beside cells and free ports. -/
def PsI (w1 X : World) (bl bw bo bf P go gf n f : Nat) (Qp : List Pa) : Prop := ∃ ofs frs v qs, PtS w1 X bl bw bo bf P go gf n f ofs frs v qs ∧ qs.map (fun q => (q.xs, q.ys)) = Qp ∧ PtM ofs frs Qp n f
section
variable (Q : Exit → Act → World → Prop) (w1 : World) (bl bw bo bf P m go gf : Nat) (A : Option Addr) (cap : Nat) (L : List (ByteArray × Int)) (VA VB : Option Addr) (ca cb : Nat) (cells : List Int) (f : Nat) (W : List (Pt × Pt)) (n : Nat)
theorem take_ps (X : World) (p : Pt) (Qp : List Pa) (hs : SigOk L) (hag : ∀ i, i < cells.length → 0 ≤ cells.getD i 0 ∧ cells.getD i 0 < L.length) (hok : NetOk (pnL L) cells f W) (hc5 : cells.length ≤ 5000) (hf5 : f ≤ 10000)
    (hn : n = cells.length) (hp : isPt (pnL L) cells f p = true) (hq : Qp.length ≤ 10000) (hw : WebS w1 P m A cap L VA VB ca cb cells f W) (h : PsI w1 X bl bw bo bf P go gf n f Qp) :
    Calls Try.prog 22 #[.agg #[.int .i64 p.1, .int .i64 p.2], .pointer (some ⟨bl, 0, none⟩), .pointer (some ⟨bw, 0, none⟩), .pointer (some ⟨bo, 0, none⟩), .pointer (some ⟨bf, 0, none⟩)] X fun e X' => e = .returned (.tuple #[]) ∧ PsI w1 X' bl bw bo bf P go gf n f (Qp ++ [partOf (pnL L) cells f (lkM W) p]) := by
  obtain ⟨ofs, frs, v, qs, hS, rfl, hM⟩ := h
  rw [List.length_map] at hq
  refine (take_calls w1 bl bw bo bf P m go gf A cap L VA VB ca cb cells f W n X p ofs frs v qs (Lib.hid hs) (Lib.hid hag) (Lib.hid hok) hc5 hf5 hn (Lib.hid hp) hq (Lib.hid hw) (Lib.hid fun c hc => by have := (hM.o c hc).2.1; rw [List.length_map] at this; exact this) (Lib.hid fun i hi => frC_code hok hp hi) (Lib.hid hS)).mono ?_
  rintro e X' ⟨rfl, v', a, b, hS'⟩
  have hf : Fnd n (wlk (pnL L) cells (lkM W) p) := by
    rw [hn]
    exact Fnd.walkF (fun c q hq => by obtain ⟨y, rfl⟩ := rowP_mem hq; exact lkM_lt hok y) _ _ ((Fnd.nil _).add (isPt_lt (startP_is hok hp)))
  have hM' := hM.step hf (lkM W) p
  rw [List.length_map] at hM'
  refine ⟨rfl, _, _, v', _, hS', ?_, ?_⟩
  · rw [List.map_append, List.map_singleton]; unfold partOf; rw [← hn]
  · unfold partOf; rw [← hn]; exact hM'
set_option maxHeartbeats 4000000 in
theorem pt_9 (a : Act) (X : World) (i : Nat) (Qp : List Pa) (hi : i ≤ f) (hs : Hid (SigOk L)) (hag : Hid (∀ i, i < cells.length → 0 ≤ cells.getD i 0 ∧ cells.getD i 0 < L.length)) (hok : Hid (NetOk (pnL L) cells f W)) (hc5 : cells.length ≤ 5000) (hf5 : f ≤ 10000)
    (hn : n = cells.length) (hq : Qp.length ≤ 10000) (hw : Hid (WebS w1 P m A cap L VA VB ca cb cells f W)) (hI : Hid (PsI w1 X bl bw bo bf P go gf n f Qp))
    (hgo : Hid (∀ a' X', i < f → FrN 68 [] [(6, .pointer (some ⟨bw, 0, none⟩)), (8, .pointer (some ⟨bo, 0, none⟩)), (9, .pointer (some ⟨bf, 0, none⟩)), (10, .pointer (some ⟨bl, 0, none⟩)), (11, .func (.func 22) #[] #[.pointer (some ⟨bl, 0, none⟩), .pointer (some ⟨bw, 0, none⟩), .pointer (some ⟨bo, 0, none⟩), .pointer (some ⟨bf, 0, none⟩)]), (32, .int .i64 (f : Int)), (33, .int .i64 ((i + 1 : Nat) : Int))] a' → PsI w1 X' bl bw bo bf P go gf n f (stepP (pnL L) cells f (lkM W) Qp (-1, (i : Int))) → Q .normal a' X'))
    (hout : Hid (∀ a' X', FrN 68 [] [(6, .pointer (some ⟨bw, 0, none⟩)), (8, .pointer (some ⟨bo, 0, none⟩)), (9, .pointer (some ⟨bf, 0, none⟩)), (10, .pointer (some ⟨bl, 0, none⟩)), (11, .func (.func 22) #[] #[.pointer (some ⟨bl, 0, none⟩), .pointer (some ⟨bw, 0, none⟩), .pointer (some ⟨bo, 0, none⟩), .pointer (some ⟨bf, 0, none⟩)])] a' → i = f → PsI w1 X' bl bw bo bf P go gf n f Qp → Q (.exit 0) a' X'))
    (ha : FrN 68 [] [(6, .pointer (some ⟨bw, 0, none⟩)), (8, .pointer (some ⟨bo, 0, none⟩)), (9, .pointer (some ⟨bf, 0, none⟩)), (10, .pointer (some ⟨bl, 0, none⟩)), (11, .func (.func 22) #[] #[.pointer (some ⟨bl, 0, none⟩), .pointer (some ⟨bw, 0, none⟩), .pointer (some ⟨bo, 0, none⟩), .pointer (some ⟨bf, 0, none⟩)]), (32, .int .i64 (f : Int)), (33, .int .i64 (i : Int))] a) : (ptT 9).wp Try.prog Q a X := by
  obtain ⟨U, rfl, e6, e8, e9, e10, e11, e32, e33, -⟩ := ha.openPT
  unfold FrPT
  simp only [e6, e8, e9, e10, e11, e32, e33]
  clear e6 e8 e9 e10 e11 e32 e33 ha
  show (Code.seq _ _).wp _ _ _ _
  have HN := Lib.hid hn
  by_cases hlt : i < f
  · have hif : (i : Int) < (f : Int) := by omega
    have HLT : Hid (i < f) := hlt
    obtain ⟨ofs, frs, v, qs, hS, hmap, hM⟩ := hI.out
    obtain ⟨m1, m2⟩ := hS.bfc
    have hfl : i < frs.length := by rw [hM.fl]; exact hlt
    have m3 : X.cell? ⟨gf, i, none⟩ = some (.int .i64 (frs.getD i 0)) := by
      rw [hS.fg.cellAt i (by omega)]
      simp [ivals, hfl, List.getD_eq_getElem?_getD]
    have hfr := hM.free hlt
    have hpi : isPt (pnL L) cells f (-1, (i : Int)) = true := by simp [isPt, hlt]
    have HT : Hid (∀ Z, Z = X → Calls Try.prog 22 #[.agg #[.int .i64 (-1), .int .i64 (i : Int)], .pointer (some ⟨bl, 0, none⟩), .pointer (some ⟨bw, 0, none⟩), .pointer (some ⟨bo, 0, none⟩), .pointer (some ⟨bf, 0, none⟩)] Z fun e X' => e = .returned (.tuple #[]) ∧ PsI w1 X' bl bw bo bf P go gf n f (Qp ++ [partOf (pnL L) cells f (lkM W) (-1, (i : Int))])) := by
      rintro Z rfl
      exact take_ps w1 bl bw bo bf P m go gf A cap L VA VB ca cb cells f W n Z (-1, (i : Int)) Qp hs.out hag.out hok.out hc5 hf5 HN.out hpi hq hw.out hI.out
    generalize frs.getD i 0 = x at m3 hfr
    by_cases hx : x = 0
    · subst hx
      have hin : Hid (stepP (pnL L) cells f (lkM W) Qp (-1, (i : Int)) = Qp ++ [partOf (pnL L) cells f (lkM W) (-1, (i : Int))]) := stepP_new (hfr.1 rfl)
      clear hn hlt hS hmap hM hfl hfr hpi
      go_wp2_with (go_at_call 22; refine (HT.out _ rfl).mono ?_; rintro e X3 ⟨rfl, hT3⟩; have HT3 := Lib.hid hT3; clear hT3)
      exact hgo.out _ _ HLT.out ⟨rfl, rfl, rfl, rfl, rfl, rfl, rfl, rfl, rfl, trivial⟩ (by rw [hin.out]; exact HT3.out)
    · have hx1 : (x == 0) = false := by simp [hx]
      have hx2 : decide (x = 0) = false := by simp [hx]
      have hin : Hid (stepP (pnL L) cells f (lkM W) Qp (-1, (i : Int)) = Qp) := stepP_in (by
        by_cases h : inPa Qp (-1, (i : Int))
        · exact h
        · exact absurd (hfr.2 h) hx)
      clear hn hlt hS hmap hM hfl hfr hpi HT
      repeat (first | ((with_reducible refine hgo.out _ _ ?_ ?_ ?_); (· exact HLT.out); (· exact ⟨rfl, rfl, rfl, rfl, rfl, rfl, rfl, rfl, rfl, trivial⟩); (· exact (by rw [hin.out]; exact hI.out))) | go_values | go_skip | go_guarded | go_step | go_upon | go_back)
  · obtain rfl : i = f := by omega
    have hif : ¬ (i : Int) < (i : Int) := by omega
    clear hn hlt
    repeat (first | ((with_reducible refine hout.out _ _ ?_ ?_ ?_); (· exact ⟨rfl, rfl, rfl, rfl, rfl, rfl, rfl, trivial⟩); (· rfl); (· exact hI.out)) | go_values | go_skip | go_guarded | go_step | go_upon | go_back)
set_option maxHeartbeats 4000000 in
theorem pt_15 (a : Act) (X : World) (c : Nat) (Qp : List Pa) (hc : c ≤ n) (hI : Hid (PsI w1 X bl bw bo bf P go gf n f Qp)) (hn5 : n ≤ 5000)
    (hgo : Hid (∀ a' X', c < n ∧ inPa Qp ((c : Int), 0) → FrN 68 [] [(6, .pointer (some ⟨bw, 0, none⟩)), (8, .pointer (some ⟨bo, 0, none⟩)), (9, .pointer (some ⟨bf, 0, none⟩)), (10, .pointer (some ⟨bl, 0, none⟩)), (11, .func (.func 22) #[] #[.pointer (some ⟨bl, 0, none⟩), .pointer (some ⟨bw, 0, none⟩), .pointer (some ⟨bo, 0, none⟩), .pointer (some ⟨bf, 0, none⟩)]), (13, .int .i64 ((c + 1 : Nat) : Int))] a' → PsI w1 X' bl bw bo bf P go gf n f Qp → Q .normal a' X'))
    (hout : Hid (∀ a' X', c = n ∨ (c < n ∧ ¬ inPa Qp ((c : Int), 0)) → FrN 68 [] [(6, .pointer (some ⟨bw, 0, none⟩)), (8, .pointer (some ⟨bo, 0, none⟩)), (9, .pointer (some ⟨bf, 0, none⟩)), (10, .pointer (some ⟨bl, 0, none⟩)), (11, .func (.func 22) #[] #[.pointer (some ⟨bl, 0, none⟩), .pointer (some ⟨bw, 0, none⟩), .pointer (some ⟨bo, 0, none⟩), .pointer (some ⟨bf, 0, none⟩)]), (13, .int .i64 (c : Int))] a' → PsI w1 X' bl bw bo bf P go gf n f Qp → Q (.exit 4) a' X'))
    (ha : FrN 68 [] [(6, .pointer (some ⟨bw, 0, none⟩)), (8, .pointer (some ⟨bo, 0, none⟩)), (9, .pointer (some ⟨bf, 0, none⟩)), (10, .pointer (some ⟨bl, 0, none⟩)), (11, .func (.func 22) #[] #[.pointer (some ⟨bl, 0, none⟩), .pointer (some ⟨bw, 0, none⟩), .pointer (some ⟨bo, 0, none⟩), .pointer (some ⟨bf, 0, none⟩)]), (13, .int .i64 (c : Int))] a) : (ptT 15).wp Try.prog Q a X := by
  obtain ⟨U, rfl, e6, e8, e9, e10, e11, e13, -⟩ := ha.openPT
  unfold FrPT
  simp only [e6, e8, e9, e10, e11, e13]
  clear e6 e8 e9 e10 e11 e13 ha
  show (Code.seq _ _).wp _ _ _ _
  obtain ⟨ofs, frs, v, qs, hS, hmap, hM⟩ := hI.out
  obtain ⟨m1, m2⟩ := hS.boc
  by_cases hlt : c < n
  · have hcn : (c : Int) < (n : Int) := by omega
    have hol : c < ofs.length := by rw [hM.ol]; exact hlt
    have m3 : X.cell? ⟨go, c, none⟩ = some (.int .i64 (ofs.getD c 0)) := by
      rw [hS.og.cellAt c (by omega)]
      simp [ivals, hol, List.getD_eq_getElem?_getD]
    have hfr := hM.cell hlt
    generalize ofs.getD c 0 = x at m3 hfr
    by_cases hx : x = 0
    · have HP : Hid (c = n ∨ (c < n ∧ ¬ inPa Qp ((c : Int), 0))) := .inr ⟨hlt, hfr.1 hx⟩
      subst hx
      clear hlt hS hmap hM hol hfr hc
      repeat (first | ((with_reducible refine hout.out _ _ ?_ ?_ ?_); (· exact HP.out); (· exact ⟨rfl, rfl, rfl, rfl, rfl, rfl, rfl, rfl, trivial⟩); (· exact hI.out)) | go_values | go_skip | go_guarded | go_step | go_upon | go_back)
    · have HP : Hid (c < n ∧ inPa Qp ((c : Int), 0)) := ⟨hlt, by
        by_cases h : inPa Qp ((c : Int), 0)
        · exact h
        · exact absurd (hfr.2 h) hx⟩
      have hx1 : (x == 0) = false := by simp [hx]
      have hx2 : decide (x = 0) = false := by simp [hx]
      have hx3 : (x != 0) = true := by simp [hx]
      clear hlt hS hmap hM hol hfr hc
      repeat (first | ((with_reducible refine hgo.out _ _ ?_ ?_ ?_); (· exact HP.out); (· exact ⟨rfl, rfl, rfl, rfl, rfl, rfl, rfl, rfl, trivial⟩); (· exact hI.out)) | go_values | go_skip | go_guarded | go_step | go_upon | go_back)
  · obtain rfl : c = n := by omega
    have HP : Hid (c = c ∨ (c < c ∧ ¬ inPa Qp ((c : Int), 0))) := .inl rfl
    have hcn : ¬ (c : Int) < (c : Int) := by omega
    clear hlt hS hmap hM hc
    repeat (first | ((with_reducible refine hout.out _ _ ?_ ?_ ?_); (· exact HP.out); (· exact ⟨rfl, rfl, rfl, rfl, rfl, rfl, rfl, rfl, trivial⟩); (· exact hI.out)) | go_values | go_skip | go_guarded | go_step | go_upon | go_back)
end
end Go.Proofs.Ytogbanlfihabpaa
