/-
  Plain: the parts, port by port (the document) and by free ports and cells (the program).
-/
import Derived.Test.YtkonfogebepccaaGreatDoorPartsWa
import Derived.WalkMore
/-
  walk.Parts: its contract.
-/
/-
  walk.Parts: its labelled loop over the cells.
-/
namespace Go.Proofs.YtkonfogebepccaaGreatDoor
open Go.RowKit
attribute [local go_sem] cell_set
attribute [local go_sem] Oper.semAt_some
set_option maxRecDepth 100000
set_option linter.unusedVariables false
/-- The cells from c on, as ports. -/
def clsF (c n : Nat) : List Pt := (List.range' c (n - c)).map fun (x : Nat) => ((x : Int), (0 : Int))
theorem clsF_done (n : Nat) : clsF n n = [] := by simp [clsF]
theorem clsF_cons {c n : Nat} (h : c < n) : clsF c n = ((c : Int), 0) :: clsF (c + 1) n := by
  unfold clsF
  rw [show n - c = (n - (c + 1)) + 1 by omega, List.range'_succ, List.map_cons]
theorem partsK_cons {pn : Int → Nat} {cs : List Int} {f : Nat} {Lk : Pt → Pt} {l : List Pa} {p : Pt} {ps : List Pt} : partsK pn cs f Lk l (p :: ps) = partsK pn cs f Lk (stepP pn cs f Lk l p) ps := rfl
section
variable (Q : Exit → Act → World → Prop) (w1 : World) (bl bw bo bf P m go gf : Nat) (A : Option Addr) (cap : Nat) (L : List (ByteArray × Int)) (VA VB : Option Addr) (ca cb : Nat) (cells : List Int) (f : Nat) (W : List (Pt × Pt)) (n : Nat)
set_option maxHeartbeats 4000000 in
theorem pt_14 (a : Act) (X : World) (Q0 R : List Pa) (hs : Hid (SigOk L)) (hag : Hid (∀ i, i < cells.length → 0 ≤ cells.getD i 0 ∧ cells.getD i 0 < L.length)) (hok : Hid (NetOk (pnL L) cells f W)) (hc5 : cells.length ≤ 5000) (hf5 : f ≤ 10000)
    (hn : n = cells.length) (hq : Q0.length ≤ 4000) (hw : Hid (WebS w1 P m A cap L VA VB ca cb cells f W)) (hR : Hid (partsK (pnL L) cells f (lkM W) Q0 (clsF 0 n) = R)) (hI : Hid (PsI w1 X bl bw bo bf P go gf n f Q0))
    (hnext : Hid (∀ a' X', FrN 68 [] [(6, .pointer (some ⟨bw, 0, none⟩)), (8, .pointer (some ⟨bo, 0, none⟩)), (9, .pointer (some ⟨bf, 0, none⟩)), (10, .pointer (some ⟨bl, 0, none⟩)), (11, .func (.func 34) #[] #[.pointer (some ⟨bl, 0, none⟩), .pointer (some ⟨bw, 0, none⟩), .pointer (some ⟨bo, 0, none⟩), .pointer (some ⟨bf, 0, none⟩)])] a' → PsI w1 X' bl bw bo bf P go gf n f R → (ptT 19).wp Tryz.prog Q a' X'))
    (ha : FrN 68 [] [(6, .pointer (some ⟨bw, 0, none⟩)), (8, .pointer (some ⟨bo, 0, none⟩)), (9, .pointer (some ⟨bf, 0, none⟩)), (10, .pointer (some ⟨bl, 0, none⟩)), (11, .func (.func 34) #[] #[.pointer (some ⟨bl, 0, none⟩), .pointer (some ⟨bw, 0, none⟩), .pointer (some ⟨bo, 0, none⟩), .pointer (some ⟨bf, 0, none⟩)])] a) : (ptT 14).wp Tryz.prog Q a X := by
  obtain ⟨U, rfl, e6, e8, e9, e10, e11, -⟩ := ha.openPT
  unfold FrPT
  simp only [e6, e8, e9, e10, e11]
  clear e6 e8 e9 e10 e11 ha
  show (Code.seq _ _).wp _ _ _ _
  have HN := Lib.hid hn
  have hn5 : n ≤ 5000 := by omega
  have HQ0 := Lib.hid hq
  clear hn hq
  repeat (first | go_step3 | go_values | go_skip | go_guarded | go_step | go_upon)
  rename_i K9 hK9
  refine wp_loop_ghost (fun m' a' X' => ∃ l k Q1, m' = 2 * (n - l) + (1 - k) ∧ l ≤ n ∧ k ≤ 1 ∧ (k = 1 → l < n ∧ inPa Q1 ((l : Int), 0)) ∧ Q1.length ≤ Q0.length + l + k ∧ partsK (pnL L) cells f (lkM W) Q1 (clsF l n) = R ∧ FrN 68 [] [(6, .pointer (some ⟨bw, 0, none⟩)), (8, .pointer (some ⟨bo, 0, none⟩)), (9, .pointer (some ⟨bf, 0, none⟩)), (10, .pointer (some ⟨bl, 0, none⟩)), (11, .func (.func 34) #[] #[.pointer (some ⟨bl, 0, none⟩), .pointer (some ⟨bw, 0, none⟩), .pointer (some ⟨bo, 0, none⟩), .pointer (some ⟨bf, 0, none⟩)]), (13, .int .i64 (l : Int))] a' ∧ PsI w1 X' bl bw bo bf P go gf n f Q1) (2 * n + 1)
    ⟨0, 0, Q0, by omega, by omega, by omega, by omega, by omega, hR.out, ⟨rfl, rfl, rfl, rfl, rfl, rfl, rfl, rfl, trivial⟩, hI.out⟩ ?_
  rintro m' a2 X2 ⟨l, k, Q1, rfl, hl, hk, hkk, hlen, hpk, hfr, hps⟩
  repeat (first | go_step3 | go_skip | go_step)
  rename_i K10 hK10
  refine wp_loop_ghost (fun m' a' X' => ∃ c k', m' = n - c ∧ l ≤ c ∧ c ≤ n ∧ (c = l → k' = k) ∧ (c ≠ l → k' = 0) ∧ Q1.length ≤ Q0.length + c + k' ∧ partsK (pnL L) cells f (lkM W) Q1 (clsF c n) = R ∧ FrN 68 [] [(6, .pointer (some ⟨bw, 0, none⟩)), (8, .pointer (some ⟨bo, 0, none⟩)), (9, .pointer (some ⟨bf, 0, none⟩)), (10, .pointer (some ⟨bl, 0, none⟩)), (11, .func (.func 34) #[] #[.pointer (some ⟨bl, 0, none⟩), .pointer (some ⟨bw, 0, none⟩), .pointer (some ⟨bo, 0, none⟩), .pointer (some ⟨bf, 0, none⟩)]), (13, .int .i64 (c : Int))] a' ∧ PsI w1 X' bl bw bo bf P go gf n f Q1) (n - l)
    ⟨l, k, rfl, Nat.le_refl _, hl, fun _ => rfl, fun h => absurd rfl h, hlen, hpk, hfr, hps⟩ ?_
  rintro m' a3 X3 ⟨c, k', rfl, hlc, hcn, h1, h2, hlen2, hpk2, hfr2, hps2⟩
  refine pt_15 _ w1 bl bw bo bf P go gf f n a3 X3 c Q1 hcn (Lib.hid hps2) hn5 (Lib.hid fun a4 X4 hin hfr4 hps4 => ?_) (Lib.hid fun a4 X4 hex hfr4 hps4 => ?_) hfr2
  · refine ⟨n - (c + 1), by omega, c + 1, 0, rfl, by omega, by omega, fun e => by omega, fun _ => rfl, ?_, ?_, hfr4, hps4⟩
    · by_cases e : c = l
      · have := h1 e; omega
      · have := h2 e; omega
    · rw [clsF_cons hin.1, partsK_cons, stepP_in hin.2] at hpk2
      exact hpk2
  · refine hK10 _ _ ?_
    obtain ⟨U2, rfl, e6, e8, e9, e10, e11, e13, -⟩ := hfr4.openPT
    have HPS := Lib.hid hps4
    unfold FrPT
    simp only [e6, e8, e9, e10, e11, e13]
    obtain ⟨ofs, frs, v, qs, hS, hmap, hM⟩ := hps4
    obtain ⟨m1, m2⟩ := hS.boc
    clear e6 e8 e9 e10 e11 e13 hfr4 hps2 hfr2 hfr hps hI hS hmap hM
    by_cases hlt : c < n
    · have hni : ¬ inPa Q1 ((c : Int), 0) := by
        rcases hex with h | h
        · omega
        · exact h.2
      have hcn1 : (c : Int) ≠ (n : Int) := by omega
      have hcn2 : ((c : Int) == (n : Int)) = false := by simp; omega
      have hcn3 : decide ((c : Int) = (n : Int)) = false := by simp; omega
      have hc' : c < cells.length := by rw [← HN.out]; exact hlt
      obtain ⟨hx0, hx1⟩ := hag.out c hc'
      have hpn := pnL_in hs.out hx0 hx1
      have har := hs.out.ar (cells.getD c 0).toNat (by omega)
      have hpc : isPt (pnL L) cells f ((c : Int), 0) = true := isPt_cell (s := 0) f hc' (by omega)
      have hk0 : k' ≤ 1 ∧ (c = l → k' = 0) := by
        refine ⟨?_, fun e => ?_⟩
        · by_cases e : c = l
          · have := h1 e; omega
          · have := h2 e; omega
        · have := h1 e
          by_cases e2 : k = 1
          · exact absurd (e ▸ (hkk e2).2) hni
          · omega
      have hq1 : Q1.length ≤ 10000 := by have := HQ0.out; omega
      have HF : Hid (2 * (n - c) + (1 - 1) < 2 * (n - l) + (1 - k) ∧ Q1.length + 1 ≤ Q0.length + c + 1 ∧ c < n ∧ partsK (pnL L) cells f (lkM W) (Q1 ++ [partOf (pnL L) cells f (lkM W) ((c : Int), 0)]) (clsF c n) = R ∧ inPa (Q1 ++ [partOf (pnL L) cells f (lkM W) ((c : Int), 0)]) ((c : Int), 0)) := by
        refine ⟨?_, ?_, hlt, ?_, partOf_has hok.out hpc _⟩
        · by_cases e : c = l
          · have e3 := h1 e; have e4 := hk0.2 e; omega
          · omega
        · by_cases e : c = l
          · have e4 := hk0.2 e; omega
          · have e4 := h2 e; omega
        · rw [clsF_cons hlt, partsK_cons, stepP_new hni] at hpk2
          rw [clsF_cons hlt, partsK_cons, stepP_in (partOf_has hok.out hpc _)]
          exact hpk2
      have HT : Hid (∀ Z, Z = X4 → Calls Tryz.prog 34 #[.agg #[.int .i64 (c : Int), .int .i64 0], .pointer (some ⟨bl, 0, none⟩), .pointer (some ⟨bw, 0, none⟩), .pointer (some ⟨bo, 0, none⟩), .pointer (some ⟨bf, 0, none⟩)] Z fun e X' => e = .returned (.tuple #[]) ∧ PsI w1 X' bl bw bo bf P go gf n f (Q1 ++ [partOf (pnL L) cells f (lkM W) ((c : Int), 0)])) := by
        rintro Z rfl
        exact take_ps w1 bl bw bo bf P m go gf A cap L VA VB ca cb cells f W n Z ((c : Int), 0) Q1 hs.out hag.out hok.out hc5 hf5 HN.out hpc hq1 hw.out HPS.out
      clear hni hc' hx0 hx1 hpn har hpc hk0 hq1 hex hpk2 hlen2 h1 h2 hlt hcn hlc hpk hlen hkk hk hl
      go_wp2_with (go_at_call 34; refine (HT.out _ rfl).mono ?_; rintro e X5 ⟨rfl, hT5⟩; have HT5 := Lib.hid hT5; clear hT5)
      exact ⟨2 * (n - c) + (1 - 1), HF.out.1, c, 1, _, rfl, Nat.le_of_lt HF.out.2.2.1, Nat.le_refl _, fun _ => ⟨HF.out.2.2.1, HF.out.2.2.2.2⟩, by rw [List.length_append, List.length_singleton]; exact HF.out.2.1, HF.out.2.2.2.1, ⟨rfl, rfl, rfl, rfl, rfl, rfl, rfl, rfl, trivial⟩, HT5.out⟩
    · obtain rfl : c = n := by omega
      have HR : Hid (PsI w1 X4 bl bw bo bf P go gf c f R) := by
        rw [clsF_done] at hpk2
        have e : Q1 = R := hpk2
        rw [← e]; exact HPS.out
      clear hex hpk2 hlen2 h1 h2 hlt hcn hlc hpk hlen hkk hk hl
      repeat (first | ((with_reducible refine hK9 _ _ ?_); exact hnext.out _ _ ⟨rfl, rfl, rfl, rfl, rfl, rfl, rfl, trivial⟩ HR.out) | go_values | go_skip | go_guarded | go_step | go_upon)
end
end Go.Proofs.YtkonfogebepccaaGreatDoor
namespace Go.Proofs.YtkonfogebepccaaGreatDoor
open Go.RowKit
attribute [local go_sem] cell_set
attribute [local go_sem] Oper.semAt_some
set_option maxRecDepth 100000
set_option linter.unusedVariables false
theorem row_made (X : World) (n : Nat) (hn : n ≤ maxLen) : Row (X.alloc (.cells (madeCells #[.int .i64 0] n) 3)) 3 1 (.slice (some ⟨X.heap.size, 0, none⟩) n n) n (ivals (List.replicate n 0)) :=
  ⟨by simp [ivals], .inr ⟨X.heap.size, n, _, rfl, heap_alloc_new X _, Nat.le_refl _, hn, by simp [size_madeCells], by rw [toList_madeCells_one]; simp [ivals]⟩⟩
theorem psi_start (w1 : World) (P n f : Nat) (hn : n ≤ maxLen) (hf : f ≤ maxLen) :
    PsI w1 ((((((w1.alloc (.cells #[.pointer (some ⟨P, 0, none⟩)] 76)).alloc (.cells (madeCells #[.int .i64 0] n) 3)).alloc (.cells #[.slice (some ⟨w1.heap.size + 1, 0, none⟩) n n] 23)).alloc (.cells (madeCells #[.int .i64 0] f) 3)).alloc (.cells #[.slice (some ⟨w1.heap.size + 1 + 1 + 1, 0, none⟩) f f] 23)).alloc (.cells #[.slice none 0 0] 36))
      (w1.heap.size + 1 + 1 + 1 + 1 + 1) w1.heap.size (w1.heap.size + 1 + 1) (w1.heap.size + 1 + 1 + 1 + 1) P (w1.heap.size + 1) (w1.heap.size + 1 + 1 + 1) n f [] := by
  obtain ⟨Y1, h1⟩ : ∃ Y, w1.alloc (.cells #[.pointer (some ⟨P, 0, none⟩)] 76) = Y := ⟨_, rfl⟩
  have s1 : Y1.heap.size = w1.heap.size + 1 := by rw [← h1]; simp
  have a1 : Y1.heap[w1.heap.size]? = some (.cells #[.pointer (some ⟨P, 0, none⟩)] 76 (0, 0)) := by rw [← h1]; exact heap_alloc_new w1 _
  have b1 : Below w1.heap.size w1 Y1 := by rw [← h1]; exact (Below.refl _ w1).alloc (Nat.le_refl _) _
  rw [h1]
  obtain ⟨Y2, h2⟩ : ∃ Y, Y1.alloc (.cells (madeCells #[.int .i64 0] n) 3) = Y := ⟨_, rfl⟩
  have s2 : Y2.heap.size = w1.heap.size + 1 + 1 := by rw [← h2]; simp [s1]
  have r2 := row_made Y1 n hn
  rw [h2, s1] at r2
  have k2 : Below Y1.heap.size Y1 Y2 := by rw [← h2]; exact (Below.refl _ Y1).alloc (Nat.le_refl _) _
  rw [h2]
  obtain ⟨Y3, h3⟩ : ∃ Y, Y2.alloc (.cells #[.slice (some ⟨w1.heap.size + 1, 0, none⟩) n n] 23) = Y := ⟨_, rfl⟩
  have s3 : Y3.heap.size = w1.heap.size + 1 + 1 + 1 := by rw [← h3]; simp [s2]
  have a3 : Y3.heap[w1.heap.size + 1 + 1]? = some (.cells #[.slice (some ⟨w1.heap.size + 1, 0, none⟩) n n] 23 (0, 0)) := by rw [← h3, ← s2]; exact heap_alloc_new Y2 _
  have k3 : Below Y2.heap.size Y2 Y3 := by rw [← h3]; exact (Below.refl _ Y2).alloc (Nat.le_refl _) _
  rw [h3]
  obtain ⟨Y4, h4⟩ : ∃ Y, Y3.alloc (.cells (madeCells #[.int .i64 0] f) 3) = Y := ⟨_, rfl⟩
  have s4 : Y4.heap.size = w1.heap.size + 1 + 1 + 1 + 1 := by rw [← h4]; simp [s3]
  have r4 := row_made Y3 f hf
  rw [h4, s3] at r4
  have k4 : Below Y3.heap.size Y3 Y4 := by rw [← h4]; exact (Below.refl _ Y3).alloc (Nat.le_refl _) _
  rw [h4]
  obtain ⟨Y5, h5⟩ : ∃ Y, Y4.alloc (.cells #[.slice (some ⟨w1.heap.size + 1 + 1 + 1, 0, none⟩) f f] 23) = Y := ⟨_, rfl⟩
  have s5 : Y5.heap.size = w1.heap.size + 1 + 1 + 1 + 1 + 1 := by rw [← h5]; simp [s4]
  have a5 : Y5.heap[w1.heap.size + 1 + 1 + 1 + 1]? = some (.cells #[.slice (some ⟨w1.heap.size + 1 + 1 + 1, 0, none⟩) f f] 23 (0, 0)) := by rw [← h5, ← s4]; exact heap_alloc_new Y4 _
  have k5 : Below Y4.heap.size Y4 Y5 := by rw [← h5]; exact (Below.refl _ Y4).alloc (Nat.le_refl _) _
  rw [h5]
  obtain ⟨Y6, h6⟩ : ∃ Y, Y5.alloc (.cells #[.slice none 0 0] 36) = Y := ⟨_, rfl⟩
  have a6 : Y6.heap[w1.heap.size + 1 + 1 + 1 + 1 + 1]? = some (.cells #[.slice none 0 0] 36 (0, 0)) := by rw [← h6, ← s5]; exact heap_alloc_new Y5 _
  have k6 : Below Y5.heap.size Y5 Y6 := by rw [← h6]; exact (Below.refl _ Y5).alloc (Nat.le_refl _) _
  rw [h6]
  have q5 : Below Y4.heap.size Y4 Y6 := k5.trans (k6.mono (by omega))
  have q4 : Below Y3.heap.size Y3 Y6 := k4.trans (q5.mono (by omega))
  have q3 : Below Y2.heap.size Y2 Y6 := k3.trans (q4.mono (by omega))
  have q2 : Below Y1.heap.size Y1 Y6 := k2.trans (q3.mono (by omega))
  refine ⟨_, _, .slice none 0 0, [], ⟨b1.trans (q2.mono (by omega)), a6, (q2.block _ (by omega)).trans a1, (q4.block _ (by omega)).trans a3, (k6.block _ (by omega)).trans a5, Row.nil _ _ _, r2.keep (fun b hb => by simp [ownB] at hb; subst hb; exact q3.block _ (by omega)), r4.keep (fun b hb => by simp [ownB] at hb; subst hb; exact q5.block _ (by omega)), by simp, by simp [pvCells], by simp [pvCells], ⟨fun b hb => ?_, by simp [pvCells]⟩, by omega, by omega⟩, rfl, PtM.start n f⟩
  simp only [ownB, List.append_nil, List.mem_cons, List.not_mem_nil, or_false] at hb
  omega
end Go.Proofs.YtkonfogebepccaaGreatDoor
/-
  Contracts of walk.Parts.
-/
namespace Go.Proofs.YtkonfogebepccaaGreatDoor
open Go.RowKit
attribute [local go_sem] cell_set
attribute [local go_sem] Oper.semAt_some
set_option maxRecDepth 100000
set_option linter.unusedVariables false
/-- The free ports below i. -/
def frsF (i : Nat) : List Pt := (List.range i).map fun (x : Nat) => ((-1 : Int), (x : Int))
theorem frsF_succ (i : Nat) : frsF (i + 1) = frsF i ++ [((-1 : Int), (i : Int))] := by simp [frsF, List.range_succ]
theorem stepP_len {pn : Int → Nat} {cs : List Int} {f : Nat} {Lk : Pt → Pt} {l : List Pa} {p : Pt} : (stepP pn cs f Lk l p).length ≤ l.length + 1 := by
  unfold stepP; split <;> simp
theorem partsK_len {pn : Int → Nat} {cs : List Int} {f : Nat} {Lk : Pt → Pt} (ps : List Pt) {l : List Pa} : (partsK pn cs f Lk l ps).length ≤ l.length + ps.length := by
  induction ps generalizing l with
  | nil => exact Nat.le_refl _
  | cons p r ih =>
    rw [partsK_cons]
    have h1 := ih (l := stepP pn cs f Lk l p)
    have h2 := stepP_len (pn := pn) (cs := cs) (f := f) (Lk := Lk) (l := l) (p := p)
    simp only [List.length_cons]; omega
section
variable (A : Option Addr) (n cap : Nat) (L : List (ByteArray × Int)) (VA VB : Option Addr) (ca cb : Nat) (cells : List Int) (free : Int) (W : List (Pt × Pt)) (w : World)
set_option maxHeartbeats 1000000 in
theorem parts_bad (hn : n = L.length) (hcap : L.length ≤ cap) (HL : Hid (AgRd w A L)) (hl : L.length ≤ maxLen) (HC : Hid (IntsRd w VA cells)) (HW : Hid (WrRd w VB W)) (hc : cells.length ≤ 10000) (hw : W.length ≤ 40000) (k : Int)
    (hk : (netChk (pnL L) L.length (chk L) cells free W).1 = k) (hk0 : k ≠ 0) :
    Calls Tryz.prog 10 #[.slice A n cap, netV VA ca cells free VB cb W] w fun e w' => e = .returned (.tuple #[.slice none 0 0, .int .i64 k]) ∧ Below w.heap.size w w' := by
  have f0 : (k != 0) = true := by simpa using hk0
  have HK := Lib.hid (And.intro hk hk0)
  clear hk hk0
  subst hn
  go_enter Tryz.func10, Tryz.ntmps10
  go_upto_region 1 with fail
  refine absW (fun X => Below w.heap.size w X ∧ NBox X w.heap.size VA cells.length ca free VB W.length cb) ⟨by (repeat (first | exact Below.refl _ _ | (with_reducible refine Below.drew ?_) | (with_reducible refine Below.alloc ?_ (by (try simp); (try omega)) _) | (with_reducible refine Below.setCell ?_ (by (try simp); (try omega)) _) | (with_reducible refine Below.trans ?_ (Below.mono (by assumption) (by (try simp); (try omega)))))), ⟨by simp <;> omega, by go_simp, by go_simp, by go_simp⟩⟩ ?_
  rintro X ⟨hbx, hnb⟩
  have HX := Lib.hid (And.intro hbx hnb)
  have c0 := HX.out.2.c0
  have c1 := HX.out.2.c1
  have c2 := HX.out.2.c2
  have clt := HX.out.2.lt
  clear hbx hnb
  go_step3
  go_wp2_with fail
  refine (wlook_bad A _ cap L VA VB ca cb cells free W _ rfl hcap (Lib.hid (HL.out.below HX.out.1)) hl (Lib.hid (HC.out.below HX.out.1)) (Lib.hid (HW.out.below HX.out.1)) hc hw k HK.out.1 HK.out.2).mono ?_
  rintro e w1 ⟨rfl, hb1⟩
  have HB := Lib.hid (HX.out.1.trans (hb1.mono HX.out.1.size))
  clear hb1 c0 c1 c2 clt
  simp only []
  go_wp2_with fail
  try rw [Exit.noGoto_ret]
  exact bodyPost_ret (v := .tuple #[.slice none 0 0, .int .i64 k]) (by simp only [results, Tryz.results10]; go_simp) rfl ⟨rfl, HB.out.trans ((Below.refl _ w1).alloc HB.out.size _)⟩
set_option maxHeartbeats 4000000 in
theorem parts_ok (f : Nat) (hn : n = L.length) (hcap : L.length ≤ cap) (HL : Hid (AgRd w A L)) (hl : L.length ≤ maxLen) (HC : Hid (IntsRd w VA cells)) (HW : Hid (WrRd w VB W)) (hc : cells.length ≤ 10000) (hw : W.length ≤ 40000)
    (hk : (netChk (pnL L) L.length (chk L) cells (f : Int) W).1 = 0) :
    Calls Tryz.prog 10 #[.slice A n cap, netV VA ca cells (f : Int) VB cb W] w fun e w' => ∃ w1 P bl bw bo bf go gf ofs frs v qs, e = .returned (.tuple #[v, .int .i64 0]) ∧ Below w.heap.size w w1 ∧ PtS w1 w' bl bw bo bf P go gf cells.length f ofs frs v qs ∧
      qs.map (fun q => (q.xs, q.ys)) = partsK (pnL L) cells f (lkM W) [] (frsF f ++ clsF 0 cells.length) := by
  obtain ⟨hz, hc4, hf0, hf64, hag, hok⟩ := netChk_ok hk
  rw [Int.toNat_natCast] at hok
  have hsg := Lib.hid (chk_sig hz)
  have HAG := Lib.hid hag
  have HOK := Lib.hid hok
  have HK := Lib.hid hk
  have hc5 : cells.length ≤ 5000 := by omega
  have hf5 : f ≤ 64 := by omega
  clear hk hz hag hok hf0 hf64 hc4
  subst hn
  go_enter Tryz.func10, Tryz.ntmps10
  go_upto_region 1 with fail
  refine absW (fun X => Below w.heap.size w X ∧ NBox X w.heap.size VA cells.length ca (f : Int) VB W.length cb) ⟨by (repeat (first | exact Below.refl _ _ | (with_reducible refine Below.drew ?_) | (with_reducible refine Below.alloc ?_ (by (try simp); (try omega)) _) | (with_reducible refine Below.setCell ?_ (by (try simp); (try omega)) _) | (with_reducible refine Below.trans ?_ (Below.mono (by assumption) (by (try simp); (try omega)))))), ⟨by simp <;> omega, by go_simp, by go_simp, by go_simp⟩⟩ ?_
  rintro X ⟨hbx, hnb⟩
  have HX := Lib.hid (And.intro hbx hnb)
  have c0 := HX.out.2.c0
  have c1 := HX.out.2.c1
  have c2 := HX.out.2.c2
  have clt := HX.out.2.lt
  clear hbx hnb
  go_step3
  go_wp2_with fail
  refine (wlook_ok A _ cap L VA VB ca cb cells W _ f rfl hcap (Lib.hid (HL.out.below HX.out.1)) hl (Lib.hid (HC.out.below HX.out.1)) (Lib.hid (HW.out.below HX.out.1)) hc hw HK.out).mono ?_
  rintro e w1 ⟨P, m, rfl, hws, hP, hm, hb1⟩
  have hnb := HX.out.2.below hb1
  have r0 := hnb.c0
  have r1 := hnb.c1
  have r2 := hnb.lt
  have HX1 := Lib.hid (And.intro (HX.out.1.trans (hb1.mono HX.out.1.size)) (And.intro hws (And.intro hP hm)))
  clear c0 c1 c2 clt hws hb1 hP hm hnb
  simp only []
  obtain ⟨i0, hi0, hi1, hi2, hi3⟩ := info_parts int_info
  go_upto_region 4 with fail
  go_upto_region 5 with (at_make; refine wpList_make_row _ rfl _ _ _ rfl _ i0 _ (by rfl) hi0 hi1 hi2 (by rfl) .i64 .i64 cells.length (by rfl) (by rfl) (by rw [hi3]; omega) (by omega) ?_)
  have HP0 := Lib.hid (psi_start w1 P cells.length f (by unfold maxLen; omega) (by unfold maxLen; omega))
  have hb3 : Below w1.heap.size w1 (((w1.alloc (.cells #[.pointer (some ⟨P, 0, none⟩)] 76)).alloc (.cells (madeCells #[.int .i64 0] cells.length) 3)).alloc (.cells #[.slice (some ⟨w1.heap.size + 1, 0, none⟩) cells.length cells.length] 23)) := by (repeat (first | exact Below.refl _ _ | (with_reducible refine Below.drew ?_) | (with_reducible refine Below.alloc ?_ (by (try simp); (try omega)) _) | (with_reducible refine Below.setCell ?_ (by (try simp); (try omega)) _) | (with_reducible refine Below.trans ?_ (Below.mono (by assumption) (by (try simp); (try omega))))))
  have s3 : (((w1.alloc (.cells #[.pointer (some ⟨P, 0, none⟩)] 76)).alloc (.cells (madeCells #[.int .i64 0] cells.length) 3)).alloc (.cells #[.slice (some ⟨w1.heap.size + 1, 0, none⟩) cells.length cells.length] 23)).heap.size = w1.heap.size + 1 + 1 + 1 := by simp
  generalize hY3 : ((w1.alloc (.cells #[.pointer (some ⟨P, 0, none⟩)] 76)).alloc (.cells (madeCells #[.int .i64 0] cells.length) 3)).alloc (.cells #[.slice (some ⟨w1.heap.size + 1, 0, none⟩) cells.length cells.length] 23) = Y3 at HP0 hb3 s3 ⊢
  have r1' := (hb3.cell (p := ⟨w.heap.size, 1, none⟩) r2).trans r1
  have S3 := Lib.hid s3
  rw [← s3] at HP0
  clear hY3 hb3 s3 r0 r1
  go_upto_region 6 with (at_make; refine wpList_make_row _ rfl _ _ _ rfl _ i0 _ (by rfl) hi0 hi1 hi2 (by rfl) .i64 .i64 f (by rfl) (by rfl) (by rw [hi3]; omega) (by omega) ?_)
  go_upto_region 7 with fail
  refine absW (fun Y => PsI w1 Y (Y3.heap.size + 1 + 1) w1.heap.size (w1.heap.size + 1 + 1) (Y3.heap.size + 1) P (w1.heap.size + 1) Y3.heap.size cells.length f []) HP0.out ?_
  intro Y hY
  rw [S3.out] at hY ⊢
  have HY := Lib.hid hY
  obtain ⟨ofs, frs, v, qs, hS, _, _⟩ := hY
  obtain ⟨m1, m2⟩ := hS.bfc
  clear hS HP0
  go_upto_region 9 with fail
  rename_i K9 hK9
  have hfl : ∀ i, i ≤ f → (partsK (pnL L) cells f (lkM W) [] (frsF i)).length ≤ 64 := fun i hi => by
    have := partsK_len (pn := pnL L) (cs := cells) (f := f) (Lk := lkM W) (frsF i) (l := [])
    have e : (frsF i).length = i := by simp [frsF]
    rw [e, List.length_nil] at this; omega
  refine wp_loop_ghost (fun m' a' X' => ∃ i, m' = f - i ∧ i ≤ f ∧ FrN 68 [] [(6, .pointer (some ⟨w1.heap.size, 0, none⟩)), (8, .pointer (some ⟨w1.heap.size + 1 + 1, 0, none⟩)), (9, .pointer (some ⟨w1.heap.size + 1 + 1 + 1 + 1, 0, none⟩)), (10, .pointer (some ⟨w1.heap.size + 1 + 1 + 1 + 1 + 1, 0, none⟩)), (11, .func (.func 34) #[] #[.pointer (some ⟨w1.heap.size + 1 + 1 + 1 + 1 + 1, 0, none⟩), .pointer (some ⟨w1.heap.size, 0, none⟩), .pointer (some ⟨w1.heap.size + 1 + 1, 0, none⟩), .pointer (some ⟨w1.heap.size + 1 + 1 + 1 + 1, 0, none⟩)]), (32, .int .i64 (f : Int)), (33, .int .i64 (i : Int))] a' ∧ PsI w1 X' (w1.heap.size + 1 + 1 + 1 + 1 + 1) w1.heap.size (w1.heap.size + 1 + 1) (w1.heap.size + 1 + 1 + 1 + 1) P (w1.heap.size + 1) (w1.heap.size + 1 + 1 + 1) cells.length f (partsK (pnL L) cells f (lkM W) [] (frsF i))) f ⟨0, by omega, by omega, ⟨rfl, rfl, rfl, rfl, rfl, rfl, rfl, rfl, rfl, trivial⟩, HY.out⟩ ?_
  rintro m' a2 X2 ⟨i, rfl, hi, hfr, hps⟩
  refine pt_9 _ w1 _ _ _ _ P m _ _ A cap L VA VB ca cb cells f W cells.length a2 X2 i _ hi hsg HAG HOK hc5 (by omega) rfl (by have := hfl i hi; omega) (Lib.hid HX1.out.2.1) (Lib.hid hps) (Lib.hid fun a3 X3 hlt hfr3 hps3 => ?_) (Lib.hid fun a3 X3 hfr3 hif hps3 => ?_) hfr
  · exact ⟨f - (i + 1), by omega, i + 1, rfl, by omega, hfr3, by rw [frsF_succ, partsK_snoc]; exact hps3⟩
  · rw [hif] at hps3
    refine hK9 _ _ ?_
    refine pt_14 _ w1 _ _ _ _ P m _ _ A cap L VA VB ca cb cells f W cells.length a3 X3 (partsK (pnL L) cells f (lkM W) [] (frsF f)) (partsK (pnL L) cells f (lkM W) [] (frsF f ++ clsF 0 cells.length)) hsg HAG HOK hc5 (by omega) rfl (by have := hfl f (Nat.le_refl _); omega) (Lib.hid HX1.out.2.1) (Lib.hid (by show _ = _; simp [partsK, List.foldl_append])) (Lib.hid hps3) (Lib.hid fun a4 X4 hfr4 hps4 => ?_) hfr3
    obtain ⟨U, rfl, e6, e8, e9, e10, e11, -⟩ := hfr4.openPT
    unfold FrPT
    simp only [e6, e8, e9, e10, e11]
    clear e6 e8 e9 e10 e11 hfr4 hfr3 hfr hps hps3 hK9
    obtain ⟨ofs, frs, v, qs, hS, hmap, _⟩ := hps4
    obtain ⟨x1, x2, x3⟩ := hS.blc
    have HF := Lib.hid (And.intro hS hmap)
    clear hS hmap
    show (Code.seq _ _).wp _ _ _ _
    go_wp2_with fail
    try rw [Exit.noGoto_ret]
    exact bodyPost_ret (v := .tuple #[v, .int .i64 0]) (by simp only [results, Tryz.results10]; go_simp) rfl ⟨w1, P, _, _, _, _, _, _, ofs, frs, v, qs, rfl, HX1.out.1, HF.out.1, HF.out.2⟩
end
end Go.Proofs.YtkonfogebepccaaGreatDoor
/-
  The document's parts: has.
-/
namespace Go.Proofs.YtkonfogebepccaaGreatDoor
open Go.RowKit
attribute [local go_sem] cell_set
attribute [local go_sem] Oper.semAt_some
set_option maxRecDepth 100000
set_option linter.unusedVariables false
theorem rhas {u : Value} {xs : List Int} {w : World} (k : Int) (h : Hid (Row w 3 1 u xs.length (ivals xs))) (hl : xs.length ≤ 100000) :
    Calls Tryz.prog 60 #[u, .int .i64 k] w fun e w' => e = .returned (.bool (decide (k ∈ xs))) ∧ w' = w := by
  obtain ⟨n, hn⟩ : ∃ n, xs.length = n := ⟨_, rfl⟩
  have HN := Lib.hid hn
  obtain ⟨V, c, rfl, _⟩ := h.out.len
  rw [hn] at hl h ⊢
  clear hn
  go_enter Tryz.func60, Tryz.ntmps60
  go_wp2
  go_loopw [5] (fun i wr => ∃ j : Nat, i = .int .i64 j ∧ j ≤ n ∧ Hid (∀ x ∈ xs.take j, x ≠ k) ∧ wr = w) (fun i _ => n - (intOf i).toNat)
  case atStart => exact ⟨0, rfl, by omega, fun x hx => by simp at hx, rfl⟩
  case round =>
    obtain ⟨j, rfl, hj, HJ, rfl⟩ := hrel
    by_cases hlt : j < n
    · have hjl : j < xs.length := by rw [HN.out]; exact hlt
      obtain ⟨g, rfl⟩ : ∃ g, V = some ⟨g, 0, none⟩ := by
        rcases h.out.2 with ⟨e, h0⟩ | ⟨g, cap', cur, e, _⟩
        · omega
        · injection e with e1; exact ⟨g, e1⟩
      have c0 : wr.cell? ⟨g, j, none⟩ = some (.int .i64 (xs[j]'hjl)) := by
        rw [h.out.cellAt j (by omega)]
        simp [ivals, hjl]
      have hjn : (j : Int) < (n : Int) := by omega
      have HX : Hid (xs.take (j + 1) = xs.take j ++ [xs[j]'hjl]) := by
        show _ = _
        rw [List.take_add_one, List.getElem?_eq_getElem hjl]; rfl
      have HM : Hid ((xs[j]'hjl) ∈ xs) := List.getElem_mem hjl
      generalize xs[j]'hjl = x at c0 HX HM
      clear hjl
      by_cases hx : x = k
      · subst hx
        go_wp2
        go_ret
        exact ⟨ret_b (decide_eq_true HM.out).symm, rfl⟩
      · have hx1 : (x == k) = false := by simp [hx]
        have hx2 : decide (x = k) = false := by simp [hx]
        have HNx := Lib.hid hx
        go_wp2
        go_roundw
        case rel => exact ⟨j + 1, by go_num, by omega, (fun y hy => by
          rw [HX.out] at hy
          rcases List.mem_append.1 hy with hy | hy
          · exact HJ.out y hy
          · simp at hy; subst hy; exact HNx.out), by trivial⟩
        case measure => simp [intOf]; omega
    · obtain rfl : j = n := by omega
      have HM : Hid (decide (k ∈ xs) = false) := by
        show _ = _
        rw [decide_eq_false_iff_not]
        intro hm
        have e : xs.take j = xs := by rw [← HN.out, List.take_length]
        exact HJ.out k (by rw [e]; exact hm) rfl
      clear hlt
      go_wp2
      go_ret
      exact ⟨ret_b HM.out.symm, rfl⟩
end Go.Proofs.YtkonfogebepccaaGreatDoor
namespace Go.Proofs.YtkonfogebepccaaGreatDoor
open Go.RowKit
set_option linter.unusedVariables false
section
variable {pn : Int → Nat} {cells : List Int} {f : Nat} {W : List (Pt × Pt)}
theorem stepP_has (h : NetOk pn cells f W) {p : Pt} (hp : isPt pn cells f p = true) (l : List Pa) : inPa (stepP pn cells f (lkM W) l p) p := by
  by_cases h1 : inPa l p
  · rw [stepP_in h1]; exact h1
  · rw [stepP_new h1]; exact partOf_has h hp l
theorem partsK_row (h : NetOk pn cells f W) {c : Nat} (hc : isPt pn cells f ((c : Int), 0) = true) (k : Nat) (l : List Pa) :
    partsK pn cells f (lkM W) l ((List.range (k + 1)).map fun (s : Nat) => ((c : Int), (s : Int))) = stepP pn cells f (lkM W) l ((c : Int), 0) := by
  induction k with
  | zero => simp [List.range_succ, partsK]
  | succ k ih =>
    rw [List.range_succ, List.map_append, List.map_singleton, partsK_snoc, ih]
    exact stepP_in (inPa_same (by omega) (stepP_has h hc l))
theorem partsK_cells (h : NetOk pn cells f W) : ∀ (cs : List Int) (c : Nat) (l : List Pa), c + cs.length = cells.length → (∀ j, j < cs.length → cs.getD j 0 = cells.getD (c + j) 0) → (∀ j, j < cells.length → 0 < pn (cells.getD j 0)) →
    partsK pn cells f (lkM W) l (cellPs pn c cs) = partsK pn cells f (lkM W) l (clsF c cells.length)
  | [], c, l, hl, _, _ => by
    have : c = cells.length := by simpa using hl
    subst this
    rw [clsF_done]; rfl
  | x :: r, c, l, hl, hx, hpn => by
    simp only [List.length_cons] at hl hx
    have hcl : c < cells.length := by omega
    have hx0 : x = cells.getD c 0 := by have := hx 0 (by omega); simpa using this
    have h0 := hpn c hcl
    have hp : isPt pn cells f ((c : Int), 0) = true := isPt_cell (s := 0) f hcl h0
    have ih := partsK_cells h r (c + 1) (stepP pn cells f (lkM W) l ((c : Int), 0)) (by omega) (fun j hj => by
      have := hx (j + 1) (by omega)
      rw [show c + 1 + j = c + (j + 1) by omega, ← this]; simp) hpn
    rw [clsF_cons hcl, partsK_cons, ← ih]
    show partsK pn cells f (lkM W) l (((List.range (pn x)).map fun (s : Nat) => ((c : Int), (s : Int))) ++ cellPs pn (c + 1) r) = _
    obtain ⟨k, hk⟩ : ∃ k, pn x = k + 1 := ⟨pn x - 1, by rw [hx0]; omega⟩
    rw [hk]
    have e := partsK_row h hp k l
    show List.foldl _ _ _ = _
    rw [List.foldl_append]
    show partsK pn cells f (lkM W) (partsK pn cells f (lkM W) l _) (cellPs pn (c + 1) r) = _
    rw [e]
theorem partsK_all (h : NetOk pn cells f W) (hpn : ∀ j, j < cells.length → 0 < pn (cells.getD j 0)) :
    partsK pn cells f (lkM W) [] (allPs pn cells f) = partsK pn cells f (lkM W) [] (frsF f ++ clsF 0 cells.length) := by
  have e1 : ∀ (a b : List Pt), partsK pn cells f (lkM W) [] (a ++ b) = partsK pn cells f (lkM W) (partsK pn cells f (lkM W) [] a) b := fun a b => by simp [partsK, List.foldl_append]
  unfold allPs
  rw [e1, e1, partsK_cells h cells 0 _ (by omega) (fun j hj => by rw [Nat.zero_add]) hpn]
  rfl
/-- A free port's part as the document decides it, by places. -/
theorem frC_doc (h : NetOk pn cells f W) {p : Pt} (hp : isPt pn cells f p = true) {i : Nat} (hi : i < f) :
    ((0 ≤ (lkM W (-1, (i : Int))).1 ∧ (lkM W (-1, (i : Int))).1 ∈ wlk pn cells (lkM W) p) ∨ (wlk pn cells (lkM W) p = [] ∧ (i = plc pn cells f p ∨ plc pn cells f (lkM W (-1, (i : Int))) = plc pn cells f p))) ↔ frC (lkM W) p (wlk pn cells (lkM W) p) i = true := by
  have hpi : isPt pn cells f (-1, (i : Int)) = true := by simp [isPt, hi]
  have hq := (lkM_eq h hpi).2
  have hpl : plc pn cells f (-1, (i : Int)) = i := by simp [plc]
  have e1 : i = plc pn cells f p ↔ ((-1 : Int), (i : Int)) = p := ⟨fun e => plc_inj pn hpi hp (hpl.trans e), fun e => by rw [← e, hpl]⟩
  have e2 : plc pn cells f (lkM W (-1, (i : Int))) = plc pn cells f p ↔ lkM W (-1, (i : Int)) = p := ⟨fun e => plc_inj pn hq hp e, fun e => by rw [e]⟩
  unfold frC
  rw [decide_eq_true_iff, e1, e2]
end
end Go.Proofs.YtkonfogebepccaaGreatDoor
