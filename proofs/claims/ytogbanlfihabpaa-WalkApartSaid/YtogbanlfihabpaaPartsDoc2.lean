/-
  Plain: what the document reads of a free port.
-/
import Derived.Test.YtogbanlfihabpaaPartsWc
/-
  Contracts of walk.Parts.
-/
namespace Go.Proofs.Ytogbanlfihabpaa
open Go.RowKit
attribute [local go_sem] cell_set
attribute [local go_sem] Oper.semAt_some
set_option maxRecDepth 100000
set_option linter.unusedVariables false
/-- The free ports below i. -/
def frsF (i : Nat) : List Pt := (List.range i).map fun (x : Nat) => ((-1 : Int), (x : Int))
theorem frsF_succ (i : Nat) : frsF (i + 1) = frsF i ++ [((-1 : Int), (i : Int))] := by simp [frsF, List.range_succ]
theorem stepP_len {pn : Int → Nat} {cs : List Int} {f : Nat} {Lk : Pt → Pt} {l : List Pa} {p : Pt} : (stepP pn cs f Lk l p).length ≤ l.length + 1 := by
  unfold stepP; split <;> simp
theorem partsK_len {pn : Int → Nat} {cs : List Int} {f : Nat} {Lk : Pt → Pt} (ps : List Pt) {l : List Pa} : (partsK pn cs f Lk l ps).length ≤ l.length + ps.length := by
  induction ps generalizing l with
  | nil => exact Nat.le_refl _
  | cons p r ih =>
    rw [partsK_cons]
    have h1 := ih (l := stepP pn cs f Lk l p)
    have h2 := stepP_len (pn := pn) (cs := cs) (f := f) (Lk := Lk) (l := l) (p := p)
    simp only [List.length_cons]; omega
section
variable (A : Option Addr) (n cap : Nat) (L : List (ByteArray × Int)) (VA VB : Option Addr) (ca cb : Nat) (cells : List Int) (free : Int) (W : List (Pt × Pt)) (w : World)
set_option maxHeartbeats 4000000 in
theorem parts_ok (f : Nat) (hn : n = L.length) (hcap : L.length ≤ cap) (HL : Hid (AgRd w A L)) (hl : L.length ≤ maxLen) (HC : Hid (IntsRd w VA cells)) (HW : Hid (WrRd w VB W)) (hc : cells.length ≤ 10000) (hw : W.length ≤ 40000)
    (hk : (netChk (pnL L) L.length (chk L) cells (f : Int) W).1 = 0) :
    Calls Try.prog 7 #[.slice A n cap, netV VA ca cells (f : Int) VB cb W] w fun e w' => ∃ w1 P bl bw bo bf go gf ofs frs v qs, e = .returned (.tuple #[v, .int .i64 0]) ∧ Below w.heap.size w w1 ∧ PtS w1 w' bl bw bo bf P go gf cells.length f ofs frs v qs ∧
      qs.map (fun q => (q.xs, q.ys)) = partsK (pnL L) cells f (lkM W) [] (frsF f ++ clsF 0 cells.length) := by
  obtain ⟨hz, hc4, hf0, hf64, hag, hok⟩ := netChk_ok hk
  rw [Int.toNat_natCast] at hok
  have hsg := Lib.hid (chk_sig hz)
  have HAG := Lib.hid hag
  have HOK := Lib.hid hok
  have HK := Lib.hid hk
  have hc5 : cells.length ≤ 5000 := by omega
  have hf5 : f ≤ 64 := by omega
  clear hk hz hag hok hf0 hf64 hc4
  subst hn
  go_enter Try.func7, Try.ntmps7
  go_upto_region 1 with fail
  refine absW (fun X => Below w.heap.size w X ∧ NBox X w.heap.size VA cells.length ca (f : Int) VB W.length cb) ⟨by (repeat (first | exact Below.refl _ _ | (with_reducible refine Below.drew ?_) | (with_reducible refine Below.alloc ?_ (by (try simp); (try omega)) _) | (with_reducible refine Below.setCell ?_ (by (try simp); (try omega)) _) | (with_reducible refine Below.trans ?_ (Below.mono (by assumption) (by (try simp); (try omega)))))), ⟨by simp <;> omega, by go_simp, by go_simp, by go_simp⟩⟩ ?_
  rintro X ⟨hbx, hnb⟩
  have HX := Lib.hid (And.intro hbx hnb)
  have c0 := HX.out.2.c0
  have c1 := HX.out.2.c1
  have c2 := HX.out.2.c2
  have clt := HX.out.2.lt
  clear hbx hnb
  go_step3
  go_wp2_with fail
  refine (wlook_ok A _ cap L VA VB ca cb cells W _ f rfl hcap (Lib.hid (HL.out.below HX.out.1)) hl (Lib.hid (HC.out.below HX.out.1)) (Lib.hid (HW.out.below HX.out.1)) hc hw HK.out).mono ?_
  rintro e w1 ⟨P, m, rfl, hws, hP, hm, hb1⟩
  have hnb := HX.out.2.below hb1
  have r0 := hnb.c0
  have r1 := hnb.c1
  have r2 := hnb.lt
  have HX1 := Lib.hid (And.intro (HX.out.1.trans (hb1.mono HX.out.1.size)) (And.intro hws (And.intro hP hm)))
  clear c0 c1 c2 clt hws hb1 hP hm hnb
  simp only []
  obtain ⟨i0, hi0, hi1, hi2, hi3⟩ := info_parts int_info
  go_upto_region 4 with fail
  go_upto_region 5 with (at_make; refine wpList_make_row _ rfl _ _ _ rfl _ i0 _ (by rfl) hi0 hi1 hi2 (by rfl) .i64 .i64 cells.length (by rfl) (by rfl) (by rw [hi3]; omega) (by omega) ?_)
  have HP0 := Lib.hid (psi_start w1 P cells.length f (by unfold maxLen; omega) (by unfold maxLen; omega))
  have hb3 : Below w1.heap.size w1 (((w1.alloc (.cells #[.pointer (some ⟨P, 0, none⟩)] 58)).alloc (.cells (madeCells #[.int .i64 0] cells.length) 3)).alloc (.cells #[.slice (some ⟨w1.heap.size + 1, 0, none⟩) cells.length cells.length] 23)) := by (repeat (first | exact Below.refl _ _ | (with_reducible refine Below.drew ?_) | (with_reducible refine Below.alloc ?_ (by (try simp); (try omega)) _) | (with_reducible refine Below.setCell ?_ (by (try simp); (try omega)) _) | (with_reducible refine Below.trans ?_ (Below.mono (by assumption) (by (try simp); (try omega))))))
  have s3 : (((w1.alloc (.cells #[.pointer (some ⟨P, 0, none⟩)] 58)).alloc (.cells (madeCells #[.int .i64 0] cells.length) 3)).alloc (.cells #[.slice (some ⟨w1.heap.size + 1, 0, none⟩) cells.length cells.length] 23)).heap.size = w1.heap.size + 1 + 1 + 1 := by simp
  generalize hY3 : ((w1.alloc (.cells #[.pointer (some ⟨P, 0, none⟩)] 58)).alloc (.cells (madeCells #[.int .i64 0] cells.length) 3)).alloc (.cells #[.slice (some ⟨w1.heap.size + 1, 0, none⟩) cells.length cells.length] 23) = Y3 at HP0 hb3 s3 ⊢
  have r1' := (hb3.cell (p := ⟨w.heap.size, 1, none⟩) r2).trans r1
  have S3 := Lib.hid s3
  rw [← s3] at HP0
  clear hY3 hb3 s3 r0 r1
  go_upto_region 6 with (at_make; refine wpList_make_row _ rfl _ _ _ rfl _ i0 _ (by rfl) hi0 hi1 hi2 (by rfl) .i64 .i64 f (by rfl) (by rfl) (by rw [hi3]; omega) (by omega) ?_)
  go_upto_region 7 with fail
  refine absW (fun Y => PsI w1 Y (Y3.heap.size + 1 + 1) w1.heap.size (w1.heap.size + 1 + 1) (Y3.heap.size + 1) P (w1.heap.size + 1) Y3.heap.size cells.length f []) HP0.out ?_
  intro Y hY
  rw [S3.out] at hY ⊢
  have HY := Lib.hid hY
  obtain ⟨ofs, frs, v, qs, hS, _, _⟩ := hY
  obtain ⟨m1, m2⟩ := hS.bfc
  clear hS HP0
  go_upto_region 9 with fail
  rename_i K9 hK9
  have hfl : ∀ i, i ≤ f → (partsK (pnL L) cells f (lkM W) [] (frsF i)).length ≤ 64 := fun i hi => by
    have := partsK_len (pn := pnL L) (cs := cells) (f := f) (Lk := lkM W) (frsF i) (l := [])
    have e : (frsF i).length = i := by simp [frsF]
    rw [e, List.length_nil] at this; omega
  refine wp_loop_ghost (fun m' a' X' => ∃ i, m' = f - i ∧ i ≤ f ∧ FrN 68 [] [(6, .pointer (some ⟨w1.heap.size, 0, none⟩)), (8, .pointer (some ⟨w1.heap.size + 1 + 1, 0, none⟩)), (9, .pointer (some ⟨w1.heap.size + 1 + 1 + 1 + 1, 0, none⟩)), (10, .pointer (some ⟨w1.heap.size + 1 + 1 + 1 + 1 + 1, 0, none⟩)), (11, .func (.func 22) #[] #[.pointer (some ⟨w1.heap.size + 1 + 1 + 1 + 1 + 1, 0, none⟩), .pointer (some ⟨w1.heap.size, 0, none⟩), .pointer (some ⟨w1.heap.size + 1 + 1, 0, none⟩), .pointer (some ⟨w1.heap.size + 1 + 1 + 1 + 1, 0, none⟩)]), (32, .int .i64 (f : Int)), (33, .int .i64 (i : Int))] a' ∧ PsI w1 X' (w1.heap.size + 1 + 1 + 1 + 1 + 1) w1.heap.size (w1.heap.size + 1 + 1) (w1.heap.size + 1 + 1 + 1 + 1) P (w1.heap.size + 1) (w1.heap.size + 1 + 1 + 1) cells.length f (partsK (pnL L) cells f (lkM W) [] (frsF i))) f ⟨0, by omega, by omega, ⟨rfl, rfl, rfl, rfl, rfl, rfl, rfl, rfl, rfl, trivial⟩, HY.out⟩ ?_
  rintro m' a2 X2 ⟨i, rfl, hi, hfr, hps⟩
  refine pt_9 _ w1 _ _ _ _ P m _ _ A cap L VA VB ca cb cells f W cells.length a2 X2 i _ hi hsg HAG HOK hc5 (by omega) rfl (by have := hfl i hi; omega) (Lib.hid HX1.out.2.1) (Lib.hid hps) (Lib.hid fun a3 X3 hlt hfr3 hps3 => ?_) (Lib.hid fun a3 X3 hfr3 hif hps3 => ?_) hfr
  · exact ⟨f - (i + 1), by omega, i + 1, rfl, by omega, hfr3, by rw [frsF_succ, partsK_snoc]; exact hps3⟩
  · rw [hif] at hps3
    refine hK9 _ _ ?_
    refine pt_14 _ w1 _ _ _ _ P m _ _ A cap L VA VB ca cb cells f W cells.length a3 X3 (partsK (pnL L) cells f (lkM W) [] (frsF f)) (partsK (pnL L) cells f (lkM W) [] (frsF f ++ clsF 0 cells.length)) hsg HAG HOK hc5 (by omega) rfl (by have := hfl f (Nat.le_refl _); omega) (Lib.hid HX1.out.2.1) (Lib.hid (by show _ = _; simp [partsK, List.foldl_append])) (Lib.hid hps3) (Lib.hid fun a4 X4 hfr4 hps4 => ?_) hfr3
    obtain ⟨U, rfl, e6, e8, e9, e10, e11, -⟩ := hfr4.openPT
    unfold FrPT
    simp only [e6, e8, e9, e10, e11]
    clear e6 e8 e9 e10 e11 hfr4 hfr3 hfr hps hps3 hK9
    obtain ⟨ofs, frs, v, qs, hS, hmap, _⟩ := hps4
    obtain ⟨x1, x2, x3⟩ := hS.blc
    have HF := Lib.hid (And.intro hS hmap)
    clear hS hmap
    show (Code.seq _ _).wp _ _ _ _
    go_wp2_with fail
    try rw [Exit.noGoto_ret]
    exact bodyPost_ret (v := .tuple #[v, .int .i64 0]) (by simp only [results, Try.results7]; go_simp) rfl ⟨w1, P, _, _, _, _, _, _, ofs, frs, v, qs, rfl, HX1.out.1, HF.out.1, HF.out.2⟩
end
end Go.Proofs.Ytogbanlfihabpaa
/-
  Plain: the parts, port by port (the document) and by free ports and cells (the program).
-/
/-
  The document's parts: has.
-/
namespace Go.Proofs.Ytogbanlfihabpaa
open Go.RowKit
attribute [local go_sem] cell_set
attribute [local go_sem] Oper.semAt_some
set_option maxRecDepth 100000
set_option linter.unusedVariables false
end Go.Proofs.Ytogbanlfihabpaa
namespace Go.Proofs.Ytogbanlfihabpaa
open Go.RowKit
set_option linter.unusedVariables false
section
variable {pn : Int → Nat} {cells : List Int} {f : Nat} {W : List (Pt × Pt)}
theorem stepP_has (h : NetOk pn cells f W) {p : Pt} (hp : isPt pn cells f p = true) (l : List Pa) : inPa (stepP pn cells f (lkM W) l p) p := by
  by_cases h1 : inPa l p
  · rw [stepP_in h1]; exact h1
  · rw [stepP_new h1]; exact partOf_has h hp l
theorem partsK_row (h : NetOk pn cells f W) {c : Nat} (hc : isPt pn cells f ((c : Int), 0) = true) (k : Nat) (l : List Pa) :
    partsK pn cells f (lkM W) l ((List.range (k + 1)).map fun (s : Nat) => ((c : Int), (s : Int))) = stepP pn cells f (lkM W) l ((c : Int), 0) := by
  induction k with
  | zero => simp [List.range_succ, partsK]
  | succ k ih =>
    rw [List.range_succ, List.map_append, List.map_singleton, partsK_snoc, ih]
    exact stepP_in (inPa_same (by omega) (stepP_has h hc l))
theorem partsK_cells (h : NetOk pn cells f W) : ∀ (cs : List Int) (c : Nat) (l : List Pa), c + cs.length = cells.length → (∀ j, j < cs.length → cs.getD j 0 = cells.getD (c + j) 0) → (∀ j, j < cells.length → 0 < pn (cells.getD j 0)) →
    partsK pn cells f (lkM W) l (cellPs pn c cs) = partsK pn cells f (lkM W) l (clsF c cells.length)
  | [], c, l, hl, _, _ => by
    have : c = cells.length := by simpa using hl
    subst this
    rw [clsF_done]; rfl
  | x :: r, c, l, hl, hx, hpn => by
    simp only [List.length_cons] at hl hx
    have hcl : c < cells.length := by omega
    have hx0 : x = cells.getD c 0 := by have := hx 0 (by omega); simpa using this
    have h0 := hpn c hcl
    have hp : isPt pn cells f ((c : Int), 0) = true := isPt_cell (s := 0) f hcl h0
    have ih := partsK_cells h r (c + 1) (stepP pn cells f (lkM W) l ((c : Int), 0)) (by omega) (fun j hj => by
      have := hx (j + 1) (by omega)
      rw [show c + 1 + j = c + (j + 1) by omega, ← this]; simp) hpn
    rw [clsF_cons hcl, partsK_cons, ← ih]
    show partsK pn cells f (lkM W) l (((List.range (pn x)).map fun (s : Nat) => ((c : Int), (s : Int))) ++ cellPs pn (c + 1) r) = _
    obtain ⟨k, hk⟩ : ∃ k, pn x = k + 1 := ⟨pn x - 1, by rw [hx0]; omega⟩
    rw [hk]
    have e := partsK_row h hp k l
    show List.foldl _ _ _ = _
    rw [List.foldl_append]
    show partsK pn cells f (lkM W) (partsK pn cells f (lkM W) l _) (cellPs pn (c + 1) r) = _
    rw [e]
theorem partsK_all (h : NetOk pn cells f W) (hpn : ∀ j, j < cells.length → 0 < pn (cells.getD j 0)) :
    partsK pn cells f (lkM W) [] (allPs pn cells f) = partsK pn cells f (lkM W) [] (frsF f ++ clsF 0 cells.length) := by
  have e1 : ∀ (a b : List Pt), partsK pn cells f (lkM W) [] (a ++ b) = partsK pn cells f (lkM W) (partsK pn cells f (lkM W) [] a) b := fun a b => by simp [partsK, List.foldl_append]
  unfold allPs
  rw [e1, e1, partsK_cells h cells 0 _ (by omega) (fun j hj => by rw [Nat.zero_add]) hpn]
  rfl
end
end Go.Proofs.Ytogbanlfihabpaa
namespace Go.Proofs.Ytogbanlfihabpaa
open Go.RowKit
set_option linter.unusedVariables false
theorem isPt_split {pn : Int → Nat} {cells : List Int} {f : Nat} {r : Pt} (h : isPt pn cells f r = true) (h0 : 0 ≤ r.1) : ∃ c s : Nat, r = ((c : Int), (s : Int)) ∧ c < cells.length ∧ s < pn (cells.getD c 0) := by
  obtain ⟨a, b⟩ := r
  dsimp only at h0
  unfold isPt at h
  rw [if_neg (by show ¬ a = -1; omega)] at h
  simp only [decide_eq_true_eq] at h
  obtain ⟨c, rfl⟩ := Int.eq_ofNat_of_zero_le h0
  obtain ⟨s, rfl⟩ := Int.eq_ofNat_of_zero_le h.2.2.1
  rw [Int.toNat_natCast] at h
  exact ⟨c, s, rfl, by omega, by omega⟩
theorem isPt_lo {pn : Int → Nat} {cells : List Int} {f : Nat} {r : Pt} (h : isPt pn cells f r = true) (h0 : r.1 < 0) : ∃ i : Nat, r = ((-1 : Int), (i : Int)) ∧ i < f := by
  obtain ⟨a, b⟩ := r
  dsimp only at h0
  unfold isPt at h
  split at h
  · rename_i h1
    dsimp only at h1
    simp only [decide_eq_true_eq] at h
    obtain ⟨i, rfl⟩ := Int.eq_ofNat_of_zero_le h.1
    exact ⟨i, by rw [h1], by omega⟩
  · simp only [decide_eq_true_eq] at h; omega
section
variable {pn : Int → Nat} {cells : List Int} {f : Nat} {W : List (Pt × Pt)}
theorem isPt_fr {i : Nat} (hi : i < f) : isPt pn cells f (-1, (i : Int)) = true := by simp [isPt, hi]
end
end Go.Proofs.Ytogbanlfihabpaa
