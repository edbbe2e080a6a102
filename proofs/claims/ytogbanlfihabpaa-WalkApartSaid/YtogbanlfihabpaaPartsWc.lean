/-
  walk.Parts: its contract.
-/
import Derived.Test.YtogbanlfihabpaaPartsWa
import Derived.WalkMore
/-
  walk.Parts: its labelled loop over the cells.
-/
namespace Go.Proofs.Ytogbanlfihabpaa
open Go.RowKit
attribute [local go_sem] cell_set
attribute [local go_sem] Oper.semAt_some
set_option maxRecDepth 100000
set_option linter.unusedVariables false
/-- The cells from c on, as ports. -/
def clsF (c n : Nat) : List Pt := (List.range' c (n - c)).map fun (x : Nat) => ((x : Int), (0 : Int))
theorem clsF_done (n : Nat) : clsF n n = [] := by simp [clsF]
theorem clsF_cons {c n : Nat} (h : c < n) : clsF c n = ((c : Int), 0) :: clsF (c + 1) n := by
  unfold clsF
  rw [show n - c = (n - (c + 1)) + 1 by omega, List.range'_succ, List.map_cons]
theorem partsK_cons {pn : Int → Nat} {cs : List Int} {f : Nat} {Lk : Pt → Pt} {l : List Pa} {p : Pt} {ps : List Pt} : partsK pn cs f Lk l (p :: ps) = partsK pn cs f Lk (stepP pn cs f Lk l p) ps := rfl
section
variable (Q : Exit → Act → World → Prop) (w1 : World) (bl bw bo bf P m go gf : Nat) (A : Option Addr) (cap : Nat) (L : List (ByteArray × Int)) (VA VB : Option Addr) (ca cb : Nat) (cells : List Int) (f : Nat) (W : List (Pt × Pt)) (n : Nat)
set_option maxHeartbeats 4000000 in
theorem pt_14 (a : Act) (X : World) (Q0 R : List Pa) (hs : Hid (SigOk L)) (hag : Hid (∀ i, i < cells.length → 0 ≤ cells.getD i 0 ∧ cells.getD i 0 < L.length)) (hok : Hid (NetOk (pnL L) cells f W)) (hc5 : cells.length ≤ 5000) (hf5 : f ≤ 10000)
    (hn : n = cells.length) (hq : Q0.length ≤ 4000) (hw : Hid (WebS w1 P m A cap L VA VB ca cb cells f W)) (hR : Hid (partsK (pnL L) cells f (lkM W) Q0 (clsF 0 n) = R)) (hI : Hid (PsI w1 X bl bw bo bf P go gf n f Q0))
    (hnext : Hid (∀ a' X', FrN 68 [] [(6, .pointer (some ⟨bw, 0, none⟩)), (8, .pointer (some ⟨bo, 0, none⟩)), (9, .pointer (some ⟨bf, 0, none⟩)), (10, .pointer (some ⟨bl, 0, none⟩)), (11, .func (.func 22) #[] #[.pointer (some ⟨bl, 0, none⟩), .pointer (some ⟨bw, 0, none⟩), .pointer (some ⟨bo, 0, none⟩), .pointer (some ⟨bf, 0, none⟩)])] a' → PsI w1 X' bl bw bo bf P go gf n f R → (ptT 19).wp Try.prog Q a' X'))
    (ha : FrN 68 [] [(6, .pointer (some ⟨bw, 0, none⟩)), (8, .pointer (some ⟨bo, 0, none⟩)), (9, .pointer (some ⟨bf, 0, none⟩)), (10, .pointer (some ⟨bl, 0, none⟩)), (11, .func (.func 22) #[] #[.pointer (some ⟨bl, 0, none⟩), .pointer (some ⟨bw, 0, none⟩), .pointer (some ⟨bo, 0, none⟩), .pointer (some ⟨bf, 0, none⟩)])] a) : (ptT 14).wp Try.prog Q a X := by
  obtain ⟨U, rfl, e6, e8, e9, e10, e11, -⟩ := ha.openPT
  unfold FrPT
  simp only [e6, e8, e9, e10, e11]
  clear e6 e8 e9 e10 e11 ha
  show (Code.seq _ _).wp _ _ _ _
  have HN := Lib.hid hn
  have hn5 : n ≤ 5000 := by omega
  have HQ0 := Lib.hid hq
  clear hn hq
  repeat (first | go_step3 | go_values | go_skip | go_guarded | go_step | go_upon)
  rename_i K9 hK9
  refine wp_loop_ghost (fun m' a' X' => ∃ l k Q1, m' = 2 * (n - l) + (1 - k) ∧ l ≤ n ∧ k ≤ 1 ∧ (k = 1 → l < n ∧ inPa Q1 ((l : Int), 0)) ∧ Q1.length ≤ Q0.length + l + k ∧ partsK (pnL L) cells f (lkM W) Q1 (clsF l n) = R ∧ FrN 68 [] [(6, .pointer (some ⟨bw, 0, none⟩)), (8, .pointer (some ⟨bo, 0, none⟩)), (9, .pointer (some ⟨bf, 0, none⟩)), (10, .pointer (some ⟨bl, 0, none⟩)), (11, .func (.func 22) #[] #[.pointer (some ⟨bl, 0, none⟩), .pointer (some ⟨bw, 0, none⟩), .pointer (some ⟨bo, 0, none⟩), .pointer (some ⟨bf, 0, none⟩)]), (13, .int .i64 (l : Int))] a' ∧ PsI w1 X' bl bw bo bf P go gf n f Q1) (2 * n + 1)
    ⟨0, 0, Q0, by omega, by omega, by omega, by omega, by omega, hR.out, ⟨rfl, rfl, rfl, rfl, rfl, rfl, rfl, rfl, trivial⟩, hI.out⟩ ?_
  rintro m' a2 X2 ⟨l, k, Q1, rfl, hl, hk, hkk, hlen, hpk, hfr, hps⟩
  repeat (first | go_step3 | go_skip | go_step)
  rename_i K10 hK10
  refine wp_loop_ghost (fun m' a' X' => ∃ c k', m' = n - c ∧ l ≤ c ∧ c ≤ n ∧ (c = l → k' = k) ∧ (c ≠ l → k' = 0) ∧ Q1.length ≤ Q0.length + c + k' ∧ partsK (pnL L) cells f (lkM W) Q1 (clsF c n) = R ∧ FrN 68 [] [(6, .pointer (some ⟨bw, 0, none⟩)), (8, .pointer (some ⟨bo, 0, none⟩)), (9, .pointer (some ⟨bf, 0, none⟩)), (10, .pointer (some ⟨bl, 0, none⟩)), (11, .func (.func 22) #[] #[.pointer (some ⟨bl, 0, none⟩), .pointer (some ⟨bw, 0, none⟩), .pointer (some ⟨bo, 0, none⟩), .pointer (some ⟨bf, 0, none⟩)]), (13, .int .i64 (c : Int))] a' ∧ PsI w1 X' bl bw bo bf P go gf n f Q1) (n - l)
    ⟨l, k, rfl, Nat.le_refl _, hl, fun _ => rfl, fun h => absurd rfl h, hlen, hpk, hfr, hps⟩ ?_
  rintro m' a3 X3 ⟨c, k', rfl, hlc, hcn, h1, h2, hlen2, hpk2, hfr2, hps2⟩
  refine pt_15 _ w1 bl bw bo bf P go gf f n a3 X3 c Q1 hcn (Lib.hid hps2) hn5 (Lib.hid fun a4 X4 hin hfr4 hps4 => ?_) (Lib.hid fun a4 X4 hex hfr4 hps4 => ?_) hfr2
  · refine ⟨n - (c + 1), by omega, c + 1, 0, rfl, by omega, by omega, fun e => by omega, fun _ => rfl, ?_, ?_, hfr4, hps4⟩
    · by_cases e : c = l
      · have := h1 e; omega
      · have := h2 e; omega
    · rw [clsF_cons hin.1, partsK_cons, stepP_in hin.2] at hpk2
      exact hpk2
  · refine hK10 _ _ ?_
    obtain ⟨U2, rfl, e6, e8, e9, e10, e11, e13, -⟩ := hfr4.openPT
    have HPS := Lib.hid hps4
    unfold FrPT
    simp only [e6, e8, e9, e10, e11, e13]
    obtain ⟨ofs, frs, v, qs, hS, hmap, hM⟩ := hps4
    obtain ⟨m1, m2⟩ := hS.boc
    clear e6 e8 e9 e10 e11 e13 hfr4 hps2 hfr2 hfr hps hI hS hmap hM
    by_cases hlt : c < n
    · have hni : ¬ inPa Q1 ((c : Int), 0) := by
        rcases hex with h | h
        · omega
        · exact h.2
      have hcn1 : (c : Int) ≠ (n : Int) := by omega
      have hcn2 : ((c : Int) == (n : Int)) = false := by simp; omega
      have hcn3 : decide ((c : Int) = (n : Int)) = false := by simp; omega
      have hc' : c < cells.length := by rw [← HN.out]; exact hlt
      obtain ⟨hx0, hx1⟩ := hag.out c hc'
      have hpn := pnL_in hs.out hx0 hx1
      have har := hs.out.ar (cells.getD c 0).toNat (by omega)
      have hpc : isPt (pnL L) cells f ((c : Int), 0) = true := isPt_cell (s := 0) f hc' (by omega)
      have hk0 : k' ≤ 1 ∧ (c = l → k' = 0) := by
        refine ⟨?_, fun e => ?_⟩
        · by_cases e : c = l
          · have := h1 e; omega
          · have := h2 e; omega
        · have := h1 e
          by_cases e2 : k = 1
          · exact absurd (e ▸ (hkk e2).2) hni
          · omega
      have hq1 : Q1.length ≤ 10000 := by have := HQ0.out; omega
      have HF : Hid (2 * (n - c) + (1 - 1) < 2 * (n - l) + (1 - k) ∧ Q1.length + 1 ≤ Q0.length + c + 1 ∧ c < n ∧ partsK (pnL L) cells f (lkM W) (Q1 ++ [partOf (pnL L) cells f (lkM W) ((c : Int), 0)]) (clsF c n) = R ∧ inPa (Q1 ++ [partOf (pnL L) cells f (lkM W) ((c : Int), 0)]) ((c : Int), 0)) := by
        refine ⟨?_, ?_, hlt, ?_, partOf_has hok.out hpc _⟩
        · by_cases e : c = l
          · have e3 := h1 e; have e4 := hk0.2 e; omega
          · omega
        · by_cases e : c = l
          · have e4 := hk0.2 e; omega
          · have e4 := h2 e; omega
        · rw [clsF_cons hlt, partsK_cons, stepP_new hni] at hpk2
          rw [clsF_cons hlt, partsK_cons, stepP_in (partOf_has hok.out hpc _)]
          exact hpk2
      have HT : Hid (∀ Z, Z = X4 → Calls Try.prog 22 #[.agg #[.int .i64 (c : Int), .int .i64 0], .pointer (some ⟨bl, 0, none⟩), .pointer (some ⟨bw, 0, none⟩), .pointer (some ⟨bo, 0, none⟩), .pointer (some ⟨bf, 0, none⟩)] Z fun e X' => e = .returned (.tuple #[]) ∧ PsI w1 X' bl bw bo bf P go gf n f (Q1 ++ [partOf (pnL L) cells f (lkM W) ((c : Int), 0)])) := by
        rintro Z rfl
        exact take_ps w1 bl bw bo bf P m go gf A cap L VA VB ca cb cells f W n Z ((c : Int), 0) Q1 hs.out hag.out hok.out hc5 hf5 HN.out hpc hq1 hw.out HPS.out
      clear hni hc' hx0 hx1 hpn har hpc hk0 hq1 hex hpk2 hlen2 h1 h2 hlt hcn hlc hpk hlen hkk hk hl
      go_wp2_with (go_at_call 22; refine (HT.out _ rfl).mono ?_; rintro e X5 ⟨rfl, hT5⟩; have HT5 := Lib.hid hT5; clear hT5)
      exact ⟨2 * (n - c) + (1 - 1), HF.out.1, c, 1, _, rfl, Nat.le_of_lt HF.out.2.2.1, Nat.le_refl _, fun _ => ⟨HF.out.2.2.1, HF.out.2.2.2.2⟩, by rw [List.length_append, List.length_singleton]; exact HF.out.2.1, HF.out.2.2.2.1, ⟨rfl, rfl, rfl, rfl, rfl, rfl, rfl, rfl, trivial⟩, HT5.out⟩
    · obtain rfl : c = n := by omega
      have HR : Hid (PsI w1 X4 bl bw bo bf P go gf c f R) := by
        rw [clsF_done] at hpk2
        have e : Q1 = R := hpk2
        rw [← e]; exact HPS.out
      clear hex hpk2 hlen2 h1 h2 hlt hcn hlc hpk hlen hkk hk hl
      repeat (first | ((with_reducible refine hK9 _ _ ?_); exact hnext.out _ _ ⟨rfl, rfl, rfl, rfl, rfl, rfl, rfl, trivial⟩ HR.out) | go_values | go_skip | go_guarded | go_step | go_upon)
end
end Go.Proofs.Ytogbanlfihabpaa
namespace Go.Proofs.Ytogbanlfihabpaa
open Go.RowKit
attribute [local go_sem] cell_set
attribute [local go_sem] Oper.semAt_some
set_option maxRecDepth 100000
set_option linter.unusedVariables false
theorem row_made (X : World) (n : Nat) (hn : n ≤ maxLen) : Row (X.alloc (.cells (madeCells #[.int .i64 0] n) 3)) 3 1 (.slice (some ⟨X.heap.size, 0, none⟩) n n) n (ivals (List.replicate n 0)) :=
  ⟨by simp [ivals], .inr ⟨X.heap.size, n, _, rfl, heap_alloc_new X _, Nat.le_refl _, hn, by simp [size_madeCells], by rw [toList_madeCells_one]; simp [ivals]⟩⟩
theorem psi_start (w1 : World) (P n f : Nat) (hn : n ≤ maxLen) (hf : f ≤ maxLen) :
    PsI w1 ((((((w1.alloc (.cells #[.pointer (some ⟨P, 0, none⟩)] 58)).alloc (.cells (madeCells #[.int .i64 0] n) 3)).alloc (.cells #[.slice (some ⟨w1.heap.size + 1, 0, none⟩) n n] 23)).alloc (.cells (madeCells #[.int .i64 0] f) 3)).alloc (.cells #[.slice (some ⟨w1.heap.size + 1 + 1 + 1, 0, none⟩) f f] 23)).alloc (.cells #[.slice none 0 0] 32))
      (w1.heap.size + 1 + 1 + 1 + 1 + 1) w1.heap.size (w1.heap.size + 1 + 1) (w1.heap.size + 1 + 1 + 1 + 1) P (w1.heap.size + 1) (w1.heap.size + 1 + 1 + 1) n f [] := by
  obtain ⟨Y1, h1⟩ : ∃ Y, w1.alloc (.cells #[.pointer (some ⟨P, 0, none⟩)] 58) = Y := ⟨_, rfl⟩
  have s1 : Y1.heap.size = w1.heap.size + 1 := by rw [← h1]; simp
  have a1 : Y1.heap[w1.heap.size]? = some (.cells #[.pointer (some ⟨P, 0, none⟩)] 58 (0, 0)) := by rw [← h1]; exact heap_alloc_new w1 _
  have b1 : Below w1.heap.size w1 Y1 := by rw [← h1]; exact (Below.refl _ w1).alloc (Nat.le_refl _) _
  rw [h1]
  obtain ⟨Y2, h2⟩ : ∃ Y, Y1.alloc (.cells (madeCells #[.int .i64 0] n) 3) = Y := ⟨_, rfl⟩
  have s2 : Y2.heap.size = w1.heap.size + 1 + 1 := by rw [← h2]; simp [s1]
  have r2 := row_made Y1 n hn
  rw [h2, s1] at r2
  have k2 : Below Y1.heap.size Y1 Y2 := by rw [← h2]; exact (Below.refl _ Y1).alloc (Nat.le_refl _) _
  rw [h2]
  obtain ⟨Y3, h3⟩ : ∃ Y, Y2.alloc (.cells #[.slice (some ⟨w1.heap.size + 1, 0, none⟩) n n] 23) = Y := ⟨_, rfl⟩
  have s3 : Y3.heap.size = w1.heap.size + 1 + 1 + 1 := by rw [← h3]; simp [s2]
  have a3 : Y3.heap[w1.heap.size + 1 + 1]? = some (.cells #[.slice (some ⟨w1.heap.size + 1, 0, none⟩) n n] 23 (0, 0)) := by rw [← h3, ← s2]; exact heap_alloc_new Y2 _
  have k3 : Below Y2.heap.size Y2 Y3 := by rw [← h3]; exact (Below.refl _ Y2).alloc (Nat.le_refl _) _
  rw [h3]
  obtain ⟨Y4, h4⟩ : ∃ Y, Y3.alloc (.cells (madeCells #[.int .i64 0] f) 3) = Y := ⟨_, rfl⟩
  have s4 : Y4.heap.size = w1.heap.size + 1 + 1 + 1 + 1 := by rw [← h4]; simp [s3]
  have r4 := row_made Y3 f hf
  rw [h4, s3] at r4
  have k4 : Below Y3.heap.size Y3 Y4 := by rw [← h4]; exact (Below.refl _ Y3).alloc (Nat.le_refl _) _
  rw [h4]
  obtain ⟨Y5, h5⟩ : ∃ Y, Y4.alloc (.cells #[.slice (some ⟨w1.heap.size + 1 + 1 + 1, 0, none⟩) f f] 23) = Y := ⟨_, rfl⟩
  have s5 : Y5.heap.size = w1.heap.size + 1 + 1 + 1 + 1 + 1 := by rw [← h5]; simp [s4]
  have a5 : Y5.heap[w1.heap.size + 1 + 1 + 1 + 1]? = some (.cells #[.slice (some ⟨w1.heap.size + 1 + 1 + 1, 0, none⟩) f f] 23 (0, 0)) := by rw [← h5, ← s4]; exact heap_alloc_new Y4 _
  have k5 : Below Y4.heap.size Y4 Y5 := by rw [← h5]; exact (Below.refl _ Y4).alloc (Nat.le_refl _) _
  rw [h5]
  obtain ⟨Y6, h6⟩ : ∃ Y, Y5.alloc (.cells #[.slice none 0 0] 32) = Y := ⟨_, rfl⟩
  have a6 : Y6.heap[w1.heap.size + 1 + 1 + 1 + 1 + 1]? = some (.cells #[.slice none 0 0] 32 (0, 0)) := by rw [← h6, ← s5]; exact heap_alloc_new Y5 _
  have k6 : Below Y5.heap.size Y5 Y6 := by rw [← h6]; exact (Below.refl _ Y5).alloc (Nat.le_refl _) _
  rw [h6]
  have q5 : Below Y4.heap.size Y4 Y6 := k5.trans (k6.mono (by omega))
  have q4 : Below Y3.heap.size Y3 Y6 := k4.trans (q5.mono (by omega))
  have q3 : Below Y2.heap.size Y2 Y6 := k3.trans (q4.mono (by omega))
  have q2 : Below Y1.heap.size Y1 Y6 := k2.trans (q3.mono (by omega))
  refine ⟨_, _, .slice none 0 0, [], ⟨b1.trans (q2.mono (by omega)), a6, (q2.block _ (by omega)).trans a1, (q4.block _ (by omega)).trans a3, (k6.block _ (by omega)).trans a5, Row.nil _ _ _, r2.keep (fun b hb => by simp [ownB] at hb; subst hb; exact q3.block _ (by omega)), r4.keep (fun b hb => by simp [ownB] at hb; subst hb; exact q5.block _ (by omega)), by simp, by simp [pvCells], by simp [pvCells], ⟨fun b hb => ?_, by simp [pvCells]⟩, by omega, by omega⟩, rfl, PtM.start n f⟩
  simp only [ownB, List.append_nil, List.mem_cons, List.not_mem_nil, or_false] at hb
  omega
end Go.Proofs.Ytogbanlfihabpaa
