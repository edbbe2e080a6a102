/-
  audit.Audit.
-/
import Derived.Test.YthbobooiedcofaaAudCells2
import Derived.Deep.RegionHeld3
import Derived.Deep.Cut
import Derived.Deep.DeepCutAuto
namespace Go.Proofs.Ythbobooiedcofaa
open Go.RowKit
attribute [local go_sem] cell_set
set_option maxRecDepth 100000
set_option linter.unusedVariables false

def audAgg (v : Int × Int × Int × Int × Pt) : Value := .agg #[.int .i64 v.1, .int .i64 v.2.1, .int .i64 v.2.2.1, .int .i64 v.2.2.2.1, .int .i64 v.2.2.2.2.1, .int .i64 v.2.2.2.2.2]
/-- The state ahead of question k. -/
def AuK (S : Wir) (ps : Int → Int) (w : World) (br bt be : Nat) (k : Nat) (X : World) : Prop :=
  (k = 0 ∧ Au w br bt be S.A.live (S.P.length : Int) 0 0 (0, 0) 0 X) ∨
  (k = 1 ∧ S.agBad ps (S.A.upto S.A.cells.length) = none ∧ Au w br bt be S.A.live (S.P.length : Int) 0 0 (0, 0) 0 X) ∨
  (k = 2 ∧ S.agBad ps (S.A.upto S.A.cells.length) = none ∧ S.firstBad (Wir.slotsOf (-1) S.P.length) = none ∧ Au w br bt be S.A.live (S.P.length : Int) (S.nWire (Wir.slotsOf (-1) S.P.length) : Int) (S.nOpen (Wir.slotsOf (-1) S.P.length) : Int) (0, 0) 0 X) ∨
  (k = 3 ∧ S.agBad ps (S.A.upto S.A.cells.length) = none ∧ S.firstBad S.pts = none ∧ Au w br bt be S.A.live (S.P.length : Int) (S.nWire S.pts : Int) (S.nOpen S.pts : Int) (0, 0) 0 X)
/-- What lies beside. -/
structure AuZ (w : World) (h ba bw bs bf : Nat) (As : Option Addr) (n cap : Nat) (L : List (ByteArray × Int)) (B A : Nat) (S : Wir) (FA : List Nat) (br bt be : Nat) : Prop where
  s : w.heap[h]? = some (.cells #[.slice As n cap] 63 (0, 0))
  r : w.heap[h + 2]? = some (.cells #[.int .i64 0, .int .i64 0, .int .i64 0, .int .i64 0, .int .i64 0, .int .i64 0] 76 (0, 0))
  a : w.heap[ba]? = some (.cells #[.pointer (some ⟨A, 0, none⟩)] 23 (0, 0))
  f : w.heap[bs]? = some (.cells #[.func (.func 83) #[] #[.pointer (some ⟨bw, 0, none⟩), .pointer (some ⟨br, 0, none⟩), .pointer (some ⟨bt, 0, none⟩), .pointer (some ⟨be, 0, none⟩)]] 140 (0, 0))
  l : w.heap[bf]? = some (.cells #[.func (.func 82) #[] #[.pointer (some ⟨ba, 0, none⟩), .pointer (some ⟨h, 0, none⟩), .pointer (some ⟨bt, 0, none⟩), .pointer (some ⟨be, 0, none⟩)], .func (.func 85) #[] #[.pointer (some ⟨bw, 0, none⟩), .pointer (some ⟨bs, 0, none⟩)], .func (.func 86) #[] #[.pointer (some ⟨ba, 0, none⟩), .pointer (some ⟨bs, 0, none⟩)]] 1 (0, 0))
  b : AuB w bw B A S FA br bt be
  ag : AgRd w As L ∧ ∀ b off, As = some ⟨b, off, none⟩ → b ∉ [br, bt, be]
  ne : h + 2 ∉ [br, bt, be]
def AuPost (S : Wir) (ps : Int → Int) (ck : Int) (w : World) (e : Ending) (w' : World) : Prop := e = .returned (.tuple #[audAgg (S.auditV ps ck).1, .int .i64 (S.auditV ps ck).2]) ∧ Below w.heap.size w w'
theorem four_at (w : World) (a b c d : Obj) : ((((w.alloc a).alloc b).alloc c).alloc d).heap[w.heap.size]? = some a ∧ ((((w.alloc a).alloc b).alloc c).alloc d).heap[w.heap.size + 1]? = some b ∧ ((((w.alloc a).alloc b).alloc c).alloc d).heap[w.heap.size + 2]? = some c ∧ ((((w.alloc a).alloc b).alloc c).alloc d).heap[w.heap.size + 3]? = some d := by
  have e1 := heap_alloc_new w a
  have e2 := heap_alloc_new (w.alloc a) b
  have e3 := heap_alloc_new ((w.alloc a).alloc b) c
  have e4 := heap_alloc_new (((w.alloc a).alloc b).alloc c) d
  simp only [World.size_alloc, Nat.add_assoc, Nat.reduceAdd] at e2 e3 e4
  refine ⟨?_, ?_, ?_, e4⟩
  · exact (Below.heap_alloc _ _ _ (by simp <;> omega)).trans ((Below.heap_alloc _ _ _ (by simp <;> omega)).trans ((Below.heap_alloc _ _ _ (by simp <;> omega)).trans e1))
  · exact (Below.heap_alloc _ _ _ (by simp <;> omega)).trans ((Below.heap_alloc _ _ _ (by simp <;> omega)).trans e2)
  · exact (Below.heap_alloc _ _ _ (by simp <;> omega)).trans e3
theorem AuK.kp {S : Wir} {ps : Int → Int} {w X : World} {br bt be k : Nat} (h : AuK S ps w br bt be k X) : Kp [br, bt, be] w X ∧ X.heap[be]? = some (.cells #[.int .i64 0] 24 (0, 0)) := by
  rcases h with ⟨_, h⟩ | ⟨_, _, h⟩ | ⟨_, _, _, h⟩ | ⟨_, _, _, h⟩ <;> exact ⟨h.k, h.e⟩
theorem AgRd.kp {w w' : World} {As : Option Addr} {L : List (ByteArray × Int)} {F : List Nat} (h : AgRd w As L) (hk : Kp F w w') (hn : ∀ b off, As = some ⟨b, off, none⟩ → b ∉ F) : AgRd w' As L := by
  intro i hi
  obtain ⟨b, off, hA, hlt, h0, h1⟩ := h i hi
  exact ⟨b, off, hA, Nat.lt_of_lt_of_le hlt hk.size, by rw [hk.cell (p := ⟨b, off + i * 2, none⟩) hlt (hn b off hA)]; exact h0, by rw [hk.cell (p := ⟨b, off + i * 2 + 1, none⟩) hlt (hn b off hA)]; exact h1⟩
section
variable (As : Option Addr) (n cap : Nat) (L : List (ByteArray × Int)) (B A : Nat) (S : Wir) (FA : List Nat) (w : World)
set_option maxHeartbeats 1000000 in
theorem audit_sig (hn : n = L.length) (hcap : L.length ≤ cap) (HL : Hid (AgRd w As L)) (hl : L.length ≤ maxLen) (hG : Hid (WG w B A S FA)) (hz : (chk L).1 ≠ 0) :
    Calls Try.prog 33 #[.slice As n cap, .pointer (some ⟨B, 0, none⟩)] w (AuPost S (portsN L) (chk L).1 w) := by
  subst hn
  have hv : S.auditV (portsN L) (chk L).1 = ((0, 0, 0, 0, (0, 0)), (chk L).1) := by unfold Wir.auditV; rw [if_pos hz]
  have hzb : ((chk L).1 != 0) = true := by simpa using hz
  unfold AuPost
  rw [hv]
  have HGz : Hid (∀ X, Below w.heap.size w X → WG X B A S FA) := fun X h => hG.out.below h
  have HLz : Hid (∀ X, Below w.heap.size w X → AgRd X As L) := fun X h => HL.out.below h
  clear hz hv
  obtain ⟨ck, hck⟩ : ∃ ck, (chk L).1 = ck := ⟨_, rfl⟩
  have HCK := Lib.hid hck
  rw [hck] at hzb ⊢
  clear hck
  go_enter Try.func33, Try.ntmps33
  go_wp2_with fail
  go_step3
  go_wp2_with (go_at_call 15; refine (wi_arena B A S FA _ (HGz.out _ (by (repeat (first | exact Below.refl _ _ | (with_reducible refine Below.drew ?_) | (with_reducible refine Below.alloc ?_ (by (try simp); (try omega)) _) | (with_reducible refine Below.setCell ?_ (by (try simp); (try omega)) _) | (with_reducible refine Below.trans ?_ (Below.mono (by assumption) (by (try simp); (try omega))))))))).mono ?_; rintro e w1 ⟨rfl, rfl⟩)
  refine (check_any As _ cap L _ rfl hl hcap (Lib.hid (HLz.out _ (by (repeat (first | exact Below.refl _ _ | (with_reducible refine Below.drew ?_) | (with_reducible refine Below.alloc ?_ (by (try simp); (try omega)) _) | (with_reducible refine Below.setCell ?_ (by (try simp); (try omega)) _) | (with_reducible refine Below.trans ?_ (Below.mono (by assumption) (by (try simp); (try omega)))))))))).mono ?_
  rintro e w2 ⟨rfl, hb2⟩
  rw [HCK.out]
  have r0 := (hb2.block (w.heap.size + 2) (by simp)).trans (four_at w _ _ _ _).2.2.1
  have hB2 : Below w.heap.size w w2 := by (repeat (first | exact Below.refl _ _ | (with_reducible refine Below.drew ?_) | (with_reducible refine Below.alloc ?_ (by (try simp); (try omega)) _) | (with_reducible refine Below.setCell ?_ (by (try simp); (try omega)) _) | (with_reducible refine Below.trans ?_ (Below.mono (by assumption) (by (try simp); (try omega))))))
  have HB2 := Lib.hid hB2
  have z0 : w2.cell? ⟨w.heap.size + 2, 0, none⟩ = some (.int .i64 0) := by simp [World.cell?, r0]
  have z1 : w2.cell? ⟨w.heap.size + 2, 1, none⟩ = some (.int .i64 0) := by simp [World.cell?, r0]
  have z2 : w2.cell? ⟨w.heap.size + 2, 2, none⟩ = some (.int .i64 0) := by simp [World.cell?, r0]
  have z3 : w2.cell? ⟨w.heap.size + 2, 3, none⟩ = some (.int .i64 0) := by simp [World.cell?, r0]
  have z4 : w2.cell? ⟨w.heap.size + 2, 4, none⟩ = some (.int .i64 0) := by simp [World.cell?, r0]
  have z5 : w2.cell? ⟨w.heap.size + 2, 5, none⟩ = some (.int .i64 0) := by simp [World.cell?, r0]
  have y0 : w2.frozen? ⟨w.heap.size + 2, 0, none⟩ = false := by simp [World.frozen?, r0]
  have y1 : w2.frozen? ⟨w.heap.size + 2, 1, none⟩ = false := by simp [World.frozen?, r0]
  have y2 : w2.frozen? ⟨w.heap.size + 2, 2, none⟩ = false := by simp [World.frozen?, r0]
  have y3 : w2.frozen? ⟨w.heap.size + 2, 3, none⟩ = false := by simp [World.frozen?, r0]
  have y4 : w2.frozen? ⟨w.heap.size + 2, 4, none⟩ = false := by simp [World.frozen?, r0]
  have y5 : w2.frozen? ⟨w.heap.size + 2, 5, none⟩ = false := by simp [World.frozen?, r0]
  have q0 := heap_lt r0
  clear r0 hb2 hB2
  simp only []
  go_wp2_with fail
  try rw [Exit.noGoto_ret]
  refine bodyPost_ret (v := .tuple #[.agg #[.int .i64 0, .int .i64 0, .int .i64 0, .int .i64 0, .int .i64 0, .int .i64 0], .int .i64 ck]) (by simp only [results, Try.results33]; go_simp) rfl ⟨rfl, ?_⟩
  iterate 6 (refine Below.setCell ?_ (by (try simp) <;> omega) _)
  exact HB2.out
set_option maxHeartbeats 8000000 in
theorem audit_main (hn : n = L.length) (hcap : L.length ≤ cap) (HL : Hid (AgRd w As L)) (hl : L.length ≤ maxLen) (hG : Hid (WG w B A S FA)) (hz : (chk L).1 = 0) :
    Calls Try.prog 33 #[.slice As n cap, .pointer (some ⟨B, 0, none⟩)] w (AuPost S (portsN L) (chk L).1 w) := by
  subst hn
  have HS := Lib.hid (chk_sig hz)
  have HZ := Lib.hid hz
  have HGz : Hid (∀ X, Below w.heap.size w X → WG X B A S FA) := fun X h => hG.out.below h
  have HLz : Hid (∀ X, Below w.heap.size w X → AgRd X As L) := fun X h => HL.out.below h
  clear hz
  obtain ⟨R, hR⟩ : ∃ R, R = AuPost S (portsN L) (chk L).1 w := ⟨_, rfl⟩
  rw [← hR]
  have HR := Lib.hid hR
  clear hR
  go_enter Try.func33, Try.ntmps33
  go_wp2_with fail
  go_step3
  go_wp2_with (go_at_call 15; refine (wi_arena B A S FA _ (HGz.out _ (by (repeat (first | exact Below.refl _ _ | (with_reducible refine Below.drew ?_) | (with_reducible refine Below.alloc ?_ (by (try simp); (try omega)) _) | (with_reducible refine Below.setCell ?_ (by (try simp); (try omega)) _) | (with_reducible refine Below.trans ?_ (Below.mono (by assumption) (by (try simp); (try omega))))))))).mono ?_; rintro e w1 ⟨rfl, rfl⟩)
  refine (check_any As _ cap L _ rfl hl hcap (Lib.hid (HLz.out _ (by (repeat (first | exact Below.refl _ _ | (with_reducible refine Below.drew ?_) | (with_reducible refine Below.alloc ?_ (by (try simp); (try omega)) _) | (with_reducible refine Below.setCell ?_ (by (try simp); (try omega)) _) | (with_reducible refine Below.trans ?_ (Below.mono (by assumption) (by (try simp); (try omega)))))))))).mono ?_
  rintro e w2 ⟨rfl, hb2⟩
  rw [HZ.out]
  have H2 : Hid (Below w.heap.size w w2 ∧ w2.heap[w.heap.size]? = some (.cells #[.slice As L.length cap] 63 (0, 0)) ∧ w2.heap[w.heap.size + 1]? = some (.cells #[.pointer (some ⟨B, 0, none⟩)] 31 (0, 0)) ∧ w2.heap[w.heap.size + 2]? = some (.cells #[.int .i64 0, .int .i64 0, .int .i64 0, .int .i64 0, .int .i64 0, .int .i64 0] 76 (0, 0)) ∧ w2.heap[w.heap.size + 3]? = some (.cells #[.pointer (some ⟨A, 0, none⟩)] 23 (0, 0))) := by
    obtain ⟨f1, f2, f3, f4⟩ := four_at w (.cells #[.slice As L.length cap] 63) (.cells #[.pointer (some ⟨B, 0, none⟩)] 31) (.cells #[.int .i64 0, .int .i64 0, .int .i64 0, .int .i64 0, .int .i64 0, .int .i64 0] 76) (.cells #[.pointer (some ⟨A, 0, none⟩)] 23)
    exact ⟨by (repeat (first | exact Below.refl _ _ | (with_reducible refine Below.drew ?_) | (with_reducible refine Below.alloc ?_ (by (try simp); (try omega)) _) | (with_reducible refine Below.setCell ?_ (by (try simp); (try omega)) _) | (with_reducible refine Below.trans ?_ (Below.mono (by assumption) (by (try simp); (try omega)))))), (hb2.block _ (heap_lt f1)).trans f1, (hb2.block _ (heap_lt f2)).trans f2, (hb2.block _ (heap_lt f3)).trans f3, (hb2.block _ (heap_lt f4)).trans f4⟩
  clear hb2
  simp only []
  go_upto_region 7 with fail
  have hkp : ∀ Y, Below w2.heap.size w2 Y → Y.cell? ⟨w.heap.size + 3, 0, none⟩ = some (.pointer (some ⟨A, 0, none⟩)) ∧ Y.cell? ⟨w.heap.size + 1, 0, none⟩ = some (.pointer (some ⟨B, 0, none⟩)) := fun Y hb => by
    have h1 := (hb.block _ (heap_lt H2.out.2.2.2.2)).trans H2.out.2.2.2.2
    have h2 := (hb.block _ (heap_lt H2.out.2.2.1)).trans H2.out.2.2.1
    exact ⟨by simp [World.cell?, h1], by simp [World.cell?, h2]⟩
  have HKP := Lib.hid hkp
  have HLi : Hid (∀ Y, Below w2.heap.size w2 Y → Calls Try.prog 40 #[.pointer (some ⟨A, 0, none⟩)] Y fun e w' => e = .returned (.int .i64 S.A.live) ∧ Below Y.heap.size Y w') := fun Y hb => ar_live A S.A FA Y (HGz.out _ (H2.out.1.trans (hb.mono H2.out.1.size))).pa
  have HFr : Hid (∀ Y, Below w2.heap.size w2 Y → Calls Try.prog 25 #[.pointer (some ⟨B, 0, none⟩)] Y fun e w' => e = .returned (.int .i64 (S.P.length : Int)) ∧ Y = w') := fun Y hb => wi_free B A S FA Y (HGz.out _ (H2.out.1.trans (hb.mono H2.out.1.size)))
  have l3 := heap_lt H2.out.2.2.2.2
  have l1 := heap_lt H2.out.2.2.1
  clear hkp
  go_cut [9] from 32 to 36 (fun u wx => ∃ br, u = .pointer (some ⟨br, 0, none⟩) ∧ Below w2.heap.size w2 wx ∧ w2.heap.size ≤ br ∧ wx.heap[br]? = some (.cells #[.int .i64 S.A.live, .int .i64 (S.P.length : Int), .int .i64 0, .int .i64 0, .int .i64 0, .int .i64 0] 76 (0, 0)))
  case first =>
    go_region_held3 (fun Y => Y.cell? ⟨w.heap.size + 3, 0, none⟩ = some (.pointer (some ⟨A, 0, none⟩)) ∧ Y.cell? ⟨w.heap.size + 1, 0, none⟩ = some (.pointer (some ⟨B, 0, none⟩)))
      (exact HKP.out _ (by (repeat (first | (with_reducible exact Below.refl _ _) | (with_reducible assumption) | (with_reducible refine Below.drew ?_) | (with_reducible refine Below.alloc ?_ (by (try simp); (try omega)) _) | (with_reducible refine Below.setCell ?_ (by (try simp); (try omega)) _)))))
      (first
        | ((with_reducible refine (HLi.out _ (by (repeat (first | (with_reducible exact Below.refl _ _) | (with_reducible assumption) | (with_reducible refine Below.drew ?_) | (with_reducible refine Below.alloc ?_ (by (try simp); (try omega)) _) | (with_reducible refine Below.setCell ?_ (by (try simp); (try omega)) _))))).mono ?_); rintro e w9 ⟨rfl, p1⟩; dsimp only; obtain ⟨hc9, hf9⟩ := bcell p1; have hz9 := p1.size; (try simp at hz9); (try have hs9' : w2.heap.size < w9.heap.size := (by omega)); have q1 : Below w2.heap.size w2 w9 := (Below.trans (by (repeat (first | (with_reducible exact Below.refl _ _) | (with_reducible assumption) | (with_reducible refine Below.drew ?_) | (with_reducible refine Below.alloc ?_ (by (try simp); (try omega)) _) | (with_reducible refine Below.setCell ?_ (by (try simp); (try omega)) _)))) (p1.mono (by (try simp); (try omega)))); (try have hh9 : w9.heap[w2.heap.size]? = some (.cells #[.int .i64 0, .int .i64 0, .int .i64 0, .int .i64 0, .int .i64 0, .int .i64 0] 76 (0, 0)) := (p1.block _ (by simp)).trans (heap_alloc_new w2 _)); clear p1)
        | ((with_reducible refine (HFr.out _ (by (repeat (first | (with_reducible exact Below.refl _ _) | (with_reducible assumption) | (with_reducible refine Below.drew ?_) | (with_reducible refine Below.alloc ?_ (by (try simp); (try omega)) _) | (with_reducible refine Below.setCell ?_ (by (try simp); (try omega)) _))))).mono ?_); rintro e w10 ⟨rfl, rfl⟩; dsimp only))
    all_goals
      go_wp2_with fail
      go_meet
      case rel =>
        first
          | exact ⟨_, rfl, by (repeat (first | (with_reducible exact Below.refl _ _) | (with_reducible assumption) | (with_reducible refine Below.drew ?_) | (with_reducible refine Below.alloc ?_ (by (try simp); (try omega)) _) | (with_reducible refine Below.setCell ?_ (by (try simp); (try omega)) _))), q1.size, heap_alloc_new _ _⟩
          | exact ⟨_, rfl, by (repeat (first | (with_reducible exact Below.refl _ _) | (with_reducible assumption) | (with_reducible refine Below.drew ?_) | (with_reducible refine Below.alloc ?_ (by (try simp); (try omega)) _) | (with_reducible refine Below.setCell ?_ (by (try simp); (try omega)) _))), Nat.le_refl _, by simp [World.setCell, Array.getElem?_modify, hh9]⟩
          | exact ⟨_, rfl, by (repeat (first | (with_reducible exact Below.refl _ _) | (with_reducible assumption) | (with_reducible refine Below.drew ?_) | (with_reducible refine Below.alloc ?_ (by (try simp); (try omega)) _) | (with_reducible refine Below.setCell ?_ (by (try simp); (try omega)) _))), q1.size, (Below.heap_alloc _ _ _ (by simp)).trans (heap_alloc_new _ _)⟩
  case rest =>
    obtain ⟨br, rfl, hbx, hbr, hrx⟩ := hcut
    have HX := Lib.hid (And.intro hbx (And.intro hbr hrx))
    clear hbx hbr hrx HKP HLi HFr l3 l1
    go_upto_region 13 with fail
    go_step3
    go_upto_region 14 with fail
    have hsl : SigOk L := HS.out
    have hpos : 0 < L.length := by
      rcases Nat.eq_zero_or_pos L.length with h0 | h0
      · have := HZ.out
        unfold chk at this
        rw [if_pos h0] at this
        exact absurd this (by decide)
      · exact h0
    obtain ⟨⟨b0, off0, hAs, hb0, _⟩, hwcz⟩ := And.intro (HL.out 0 hpos) (H2.out.1.size)
    have hwc := HX.out.1.size
    have hh3 := heap_lt H2.out.2.2.2.2
    refine absW (fun X => Hid (Below w.heap.size w X ∧ Au X br wc.heap.size (wc.heap.size + 1) S.A.live (S.P.length : Int) 0 0 (0, 0) 0 X ∧ AuZ X w.heap.size (w.heap.size + 3) (w.heap.size + 1) (wc.heap.size + 2) (wc.heap.size + 3) As L.length cap L B A S FA br wc.heap.size (wc.heap.size + 1) ∧ w.heap.size + 3 < br ∧ w.heap.size + 3 < wc.heap.size)) (Lib.hid ?_) ?_
    · obtain ⟨f1, f2, f3, f4⟩ := four_at wc (.cells #[.int .i64 0, .int .i64 0] 39) (.cells #[.int .i64 0] 24) (.cells #[.func (.func 83) #[] #[.pointer (some ⟨w.heap.size + 1, 0, none⟩), .pointer (some ⟨br, 0, none⟩), .pointer (some ⟨wc.heap.size, 0, none⟩), .pointer (some ⟨wc.heap.size + 1, 0, none⟩)]] 140)
        (.cells #[.func (.func 82) #[] #[.pointer (some ⟨w.heap.size + 3, 0, none⟩), .pointer (some ⟨w.heap.size, 0, none⟩), .pointer (some ⟨wc.heap.size, 0, none⟩), .pointer (some ⟨wc.heap.size + 1, 0, none⟩)], .func (.func 85) #[] #[.pointer (some ⟨w.heap.size + 1, 0, none⟩), .pointer (some ⟨wc.heap.size + 2, 0, none⟩)], .func (.func 86) #[] #[.pointer (some ⟨w.heap.size + 3, 0, none⟩), .pointer (some ⟨wc.heap.size + 2, 0, none⟩)]] 1)
      have hb4 : ∀ o1 o2 o3 o4 : Obj, Below wc.heap.size wc ((((wc.alloc o1).alloc o2).alloc o3).alloc o4) := fun o1 o2 o3 o4 => by (repeat (first | exact Below.refl _ _ | (with_reducible refine Below.drew ?_) | (with_reducible refine Below.alloc ?_ (by (try simp); (try omega)) _) | (with_reducible refine Below.setCell ?_ (by (try simp); (try omega)) _) | (with_reducible refine Below.trans ?_ (Below.mono (by assumption) (by (try simp); (try omega))))))
      have hbw : ∀ o1 o2 o3 o4 : Obj, Below w.heap.size w ((((wc.alloc o1).alloc o2).alloc o3).alloc o4) := fun o1 o2 o3 o4 => (H2.out.1.trans (HX.out.1.mono H2.out.1.size)).trans ((hb4 o1 o2 o3 o4).mono (by omega))
      have hbr := HX.out.2.1
      have old : ∀ {b : Nat} {o : Obj}, w2.heap[b]? = some o → ∀ o1 o2 o3 o4 : Obj, ((((wc.alloc o1).alloc o2).alloc o3).alloc o4).heap[b]? = some o := fun h o1 o2 o3 o4 => ((hb4 o1 o2 o3 o4).block _ (Nat.lt_of_lt_of_le (heap_lt h) hwc)).trans ((HX.out.1.block _ (heap_lt h)).trans h)
      have hnB : ∀ b, b < w.heap.size + 4 → b ∉ [br, wc.heap.size, wc.heap.size + 1] := fun b hb => by simp; omega
      refine ⟨hbw _ _ _ _, ⟨Kp.refl _ _, ((hb4 _ _ _ _).block _ (heap_lt HX.out.2.2)).trans HX.out.2.2, f1, f2⟩, ⟨old H2.out.2.1 _ _ _ _, old H2.out.2.2.2.1 _ _ _ _, old H2.out.2.2.2.2 _ _ _ _, f3, f4, ⟨old H2.out.2.2.1 _ _ _ _, hG.out.below (hbw _ _ _ _), hnB _ (by omega), fun b hb => hnB b (by have := hG.out.blt b hb; omega)⟩, ⟨HL.out.below (hbw _ _ _ _), fun b off e => hnB b (by rw [hAs] at e; injection e with e; injection e with e; omega)⟩, hnB _ (by omega)⟩, by omega, by omega⟩
    intro X H3
    generalize wc.heap.size = z at H3 ⊢
    clear HX H2 hAs hb0 hwcz hwc hh3 hpos hsl
    go_loopw [47, 17] (fun i _ wr => ∃ k : Nat, i = .int .i64 k ∧ k ≤ 3 ∧ Hid (AuK S (portsN L) X br z (z + 1) k wr)) (fun i _ _ => 3 - (intOf i).toNat)
    case atStart => exact ⟨0, rfl, by omega, Lib.hid (.inl ⟨rfl, H3.out.2.1⟩)⟩
    case round =>
      obtain ⟨k, rfl, hk, HK⟩ := hrel
      have hkk := HK.out.kp
      have hbl := (hkk.1.block _ (heap_lt H3.out.2.2.1.l) ?nl).trans H3.out.2.2.1.l
      case nl => have := ty_ne H3.out.2.2.1.l H3.out.2.1.r (by decide); simp; omega
      have l0 : wr.cell? ⟨z + 3, 0, none⟩ = some (.func (.func 82) #[] #[.pointer (some ⟨w.heap.size + 3, 0, none⟩), .pointer (some ⟨w.heap.size, 0, none⟩), .pointer (some ⟨z, 0, none⟩), .pointer (some ⟨z + 1, 0, none⟩)]) := by simp [World.cell?, hbl]
      have l1 : wr.cell? ⟨z + 3, 1, none⟩ = some (.func (.func 85) #[] #[.pointer (some ⟨w.heap.size + 1, 0, none⟩), .pointer (some ⟨z + 2, 0, none⟩)]) := by simp [World.cell?, hbl]
      have l2 : wr.cell? ⟨z + 3, 2, none⟩ = some (.func (.func 86) #[] #[.pointer (some ⟨w.heap.size + 3, 0, none⟩), .pointer (some ⟨z + 2, 0, none⟩)]) := by simp [World.cell?, hbl]
      have ll := heap_lt hbl
      have HW := Lib.hid hkk.1
      have HE := Lib.hid hkk.2
      clear hkk hbl
      have hk4 : k = 0 ∨ k = 1 ∨ k = 2 ∨ k = 3 := by omega
      rcases hk4 with rfl | rfl | rfl | rfl
      · have hAu : Au X br z (z + 1) S.A.live (S.P.length : Int) 0 0 (0, 0) 0 wr := by
          rcases HK.out with ⟨_, h⟩ | ⟨h, _⟩ | ⟨h, _⟩ | ⟨h, _⟩
          · exact h
          all_goals exact absurd h (by decide)
        have HA := Lib.hid hAu
        clear hAu HK
        go_wp2_with (go_at_call 82
                     refine (au_agents (w.heap.size + 3) B A w.heap.size S FA br z (z + 1) S.A.live (S.P.length : Int) 0 0 (0, 0) 0 As L.length cap L wr rfl hl (Lib.hid ?agrd) HS ?ba ?bsg ?wg ?gn ?agn HA.out.self).mono ?_)
        case agrd => exact AgRd.kp H3.out.2.2.1.ag.1 HW.out H3.out.2.2.1.ag.2
        case ba => exact (HW.out.block _ (heap_lt H3.out.2.2.1.a) (by have := H3.out.2.2.2; simp; omega)).trans H3.out.2.2.1.a
        case bsg => exact (HW.out.block _ (heap_lt H3.out.2.2.1.s) (by have := ty_ne H3.out.2.2.1.s H3.out.2.1.r (by decide); have := H3.out.2.2.2; simp; omega)).trans H3.out.2.2.1.s
        case wg => exact H3.out.2.2.1.b.g.kp HW.out H3.out.2.2.1.b.n.2
        case gn => exact H3.out.2.2.1.b.n.2
        case agn => exact H3.out.2.2.1.ag.2
        rintro e w3 ⟨⟨r, rfl⟩, hres, hk3⟩
        clear hk3 l0 l1 l2 ll
        rcases hres with ⟨hn, ha3⟩ | ⟨q, hq, ha3⟩
        · have HQ := Lib.hid (And.intro hn (HA.out.re ha3))
          have re := ha3.e
          have e2 : w3.cell? ⟨z + 1, 0, none⟩ = some (.int .i64 0) := by simp [World.cell?, re]
          have el := heap_lt re
          clear hn ha3 re
          simp only []
          go_wp2_with fail
          go_roundw
          case measure => simp [intOf]
          case rel => exact ⟨1, by go_num, by omega, .inr (.inl ⟨rfl, HQ.out⟩)⟩
        · have HQ := Lib.hid (HA.out.re ha3)
          have HV : Hid (S.auditV (portsN L) (chk L).1 = ((0, 0, 0, 0, ((q.1 : Int), 0)), 20)) := by
            show _ = _
            unfold Wir.auditV; rw [if_neg (by simp [HZ.out]), hq]
          clear ha3 hq
          simp only []
          have rt := HQ.out.t
          have re := HQ.out.e
          have rr := (HQ.out.k.block (w.heap.size + 2) (heap_lt H3.out.2.2.1.r) H3.out.2.2.1.ne).trans H3.out.2.2.1.r
          have t2 : w3.cell? ⟨z, 0, none⟩ = some (.int .i64 (q.1 : Int)) := by simp [World.cell?, rt]
          have t3 : w3.cell? ⟨z, 1, none⟩ = some (.int .i64 0) := by simp [World.cell?, rt]
          have e2 : w3.cell? ⟨z + 1, 0, none⟩ = some (.int .i64 20) := by simp [World.cell?, re]
          have tl := heap_lt rt
          have el := heap_lt re
          have rl := heap_lt rr
          have z0 : w3.cell? ⟨w.heap.size + 2, 0, none⟩ = some (.int .i64 0) := by simp [World.cell?, rr]
          have z1 : w3.cell? ⟨w.heap.size + 2, 1, none⟩ = some (.int .i64 0) := by simp [World.cell?, rr]
          have z2 : w3.cell? ⟨w.heap.size + 2, 2, none⟩ = some (.int .i64 0) := by simp [World.cell?, rr]
          have z3 : w3.cell? ⟨w.heap.size + 2, 3, none⟩ = some (.int .i64 0) := by simp [World.cell?, rr]
          have z4 : w3.cell? ⟨w.heap.size + 2, 4, none⟩ = some (.int .i64 0) := by simp [World.cell?, rr]
          have z5 : w3.cell? ⟨w.heap.size + 2, 5, none⟩ = some (.int .i64 0) := by simp [World.cell?, rr]
          have y0 : w3.frozen? ⟨w.heap.size + 2, 0, none⟩ = false := by simp [World.frozen?, rr]
          have y1 : w3.frozen? ⟨w.heap.size + 2, 1, none⟩ = false := by simp [World.frozen?, rr]
          have y2 : w3.frozen? ⟨w.heap.size + 2, 2, none⟩ = false := by simp [World.frozen?, rr]
          have y3 : w3.frozen? ⟨w.heap.size + 2, 3, none⟩ = false := by simp [World.frozen?, rr]
          have y4 : w3.frozen? ⟨w.heap.size + 2, 4, none⟩ = false := by simp [World.frozen?, rr]
          have y5 : w3.frozen? ⟨w.heap.size + 2, 5, none⟩ = false := by simp [World.frozen?, rr]
          clear rr rt re
          have hzz := H3.out.2.2.2.2
          have hz1 : z ≠ w.heap.size + 2 := by omega
          have hz2 : z + 1 ≠ w.heap.size + 2 := by omega
          have hz3 : w.heap.size + 2 ≠ z := by omega
          have hz4 : w.heap.size + 2 ≠ z + 1 := by omega
          go_upto_region 20 with fail
          have HT := Lib.hid (And.intro t2 (And.intro t3 e2))
          go_region_held3 (fun Y => Y.cell? ⟨z, 0, none⟩ = some (.int .i64 (q.1 : Int)) ∧ Y.cell? ⟨z, 1, none⟩ = some (.int .i64 0) ∧ Y.cell? ⟨z + 1, 0, none⟩ = some (.int .i64 20))
            (first | with_reducible exact HT.out | (refine ⟨?_, ?_, ?_⟩ <;> go_simp))
            (fail)
          go_wp2_with fail
          try rw [Exit.noGoto_ret]
          have hv := HV.out
          rw [HR.out]
          refine bodyPost_ret (v := .tuple #[.agg #[.int .i64 0, .int .i64 0, .int .i64 0, .int .i64 0, .int .i64 (q.1 : Int), .int .i64 0], .int .i64 20]) (by simp only [results, Try.results33]; go_simp) rfl ⟨by rw [hv]; rfl, ?_⟩
          refine Below.drew ?_
          iterate 6 (refine Below.setCell ?_ (by (try simp) <;> omega) _)
          exact H3.out.1.trans (HQ.out.k.below H3.out.1.size (fun b hb => by have hq := H3.out.2.2.2; simp only [List.mem_cons, List.not_mem_nil, or_false] at hb; rcases hb with rfl | rfl | rfl <;> omega))
      · have hAu : S.agBad (portsN L) (S.A.upto S.A.cells.length) = none ∧ Au X br z (z + 1) S.A.live (S.P.length : Int) 0 0 (0, 0) 0 wr := by
          rcases HK.out with ⟨h, _⟩ | ⟨_, h⟩ | ⟨h, _⟩ | ⟨h, _⟩
          · exact absurd h (by decide)
          · exact h
          all_goals exact absurd h (by decide)
        have HA := Lib.hid hAu
        clear hAu HK
        go_wp2_with (go_at_call 85
                     refine (au_free (w.heap.size + 1) (z + 2) B A S FA br z (z + 1) S.A.live (S.P.length : Int) 0 0 (0, 0) 0 X wr (by omega) ?bs ?bsn H3.out.2.2.1.b HA.out.2).mono ?_)
        case bs => exact (HW.out.block _ (heap_lt H3.out.2.2.1.f) (by have := ty_ne H3.out.2.2.1.f H3.out.2.1.r (by decide); simp; omega)).trans H3.out.2.2.1.f
        case bsn => have := ty_ne H3.out.2.2.1.f H3.out.2.1.r (by decide); simp; omega
        rintro e w3 ⟨⟨r, rfl⟩, hres, hk3⟩
        clear hk3 l0 l1 l2 ll
        rcases hres with ⟨hn, ha3⟩ | ⟨q, hq, x', o', ha3⟩
        · have re := ha3.e
          rw [Int.zero_add, Int.zero_add] at ha3
          have HQ := Lib.hid (And.intro HA.out.1 (And.intro hn ha3))
          have e2 : w3.cell? ⟨z + 1, 0, none⟩ = some (.int .i64 0) := by simp [World.cell?, re]
          have el := heap_lt re
          clear hn ha3 re
          simp only []
          go_wp2_with fail
          go_roundw
          case measure => simp [intOf]
          case rel => exact ⟨2, by go_num, by omega, .inr (.inr (.inl ⟨rfl, HQ.out⟩))⟩
        · have HQ := Lib.hid ha3
          have HV : Hid (S.auditV (portsN L) (chk L).1 = ((0, 0, 0, 0, q), 42)) := by
            show _ = _
            have hp : S.firstBad S.pts = some q := by rw [S.pts_upto]; exact S.firstBad_pre hq
            unfold Wir.auditV; rw [if_neg (by simp [HZ.out]), HA.out.1, hp]
          clear ha3 hq
          simp only []
          have rt := HQ.out.t
          have re := HQ.out.e
          have rr := (HQ.out.k.block (w.heap.size + 2) (heap_lt H3.out.2.2.1.r) H3.out.2.2.1.ne).trans H3.out.2.2.1.r
          have t2 : w3.cell? ⟨z, 0, none⟩ = some (.int .i64 q.1) := by simp [World.cell?, rt]
          have t3 : w3.cell? ⟨z, 1, none⟩ = some (.int .i64 q.2) := by simp [World.cell?, rt]
          have e2 : w3.cell? ⟨z + 1, 0, none⟩ = some (.int .i64 42) := by simp [World.cell?, re]
          have tl := heap_lt rt
          have el := heap_lt re
          have rl := heap_lt rr
          have z0 : w3.cell? ⟨w.heap.size + 2, 0, none⟩ = some (.int .i64 0) := by simp [World.cell?, rr]
          have z1 : w3.cell? ⟨w.heap.size + 2, 1, none⟩ = some (.int .i64 0) := by simp [World.cell?, rr]
          have z2 : w3.cell? ⟨w.heap.size + 2, 2, none⟩ = some (.int .i64 0) := by simp [World.cell?, rr]
          have z3 : w3.cell? ⟨w.heap.size + 2, 3, none⟩ = some (.int .i64 0) := by simp [World.cell?, rr]
          have z4 : w3.cell? ⟨w.heap.size + 2, 4, none⟩ = some (.int .i64 0) := by simp [World.cell?, rr]
          have z5 : w3.cell? ⟨w.heap.size + 2, 5, none⟩ = some (.int .i64 0) := by simp [World.cell?, rr]
          have y0 : w3.frozen? ⟨w.heap.size + 2, 0, none⟩ = false := by simp [World.frozen?, rr]
          have y1 : w3.frozen? ⟨w.heap.size + 2, 1, none⟩ = false := by simp [World.frozen?, rr]
          have y2 : w3.frozen? ⟨w.heap.size + 2, 2, none⟩ = false := by simp [World.frozen?, rr]
          have y3 : w3.frozen? ⟨w.heap.size + 2, 3, none⟩ = false := by simp [World.frozen?, rr]
          have y4 : w3.frozen? ⟨w.heap.size + 2, 4, none⟩ = false := by simp [World.frozen?, rr]
          have y5 : w3.frozen? ⟨w.heap.size + 2, 5, none⟩ = false := by simp [World.frozen?, rr]
          clear rr rt re
          have hzz := H3.out.2.2.2.2
          have hz1 : z ≠ w.heap.size + 2 := by omega
          have hz2 : z + 1 ≠ w.heap.size + 2 := by omega
          have hz3 : w.heap.size + 2 ≠ z := by omega
          have hz4 : w.heap.size + 2 ≠ z + 1 := by omega
          go_upto_region 20 with fail
          have HT := Lib.hid (And.intro t2 (And.intro t3 e2))
          go_region_held3 (fun Y => Y.cell? ⟨z, 0, none⟩ = some (.int .i64 q.1) ∧ Y.cell? ⟨z, 1, none⟩ = some (.int .i64 q.2) ∧ Y.cell? ⟨z + 1, 0, none⟩ = some (.int .i64 42))
            (first | with_reducible exact HT.out | (refine ⟨?_, ?_, ?_⟩ <;> go_simp))
            (fail)
          go_wp2_with fail
          try rw [Exit.noGoto_ret]
          have hv := HV.out
          rw [HR.out]
          refine bodyPost_ret (v := .tuple #[.agg #[.int .i64 0, .int .i64 0, .int .i64 0, .int .i64 0, .int .i64 q.1, .int .i64 q.2], .int .i64 42]) (by simp only [results, Try.results33]; go_simp) rfl ⟨by rw [hv]; rfl, ?_⟩
          refine Below.drew ?_
          iterate 6 (refine Below.setCell ?_ (by (try simp) <;> omega) _)
          exact H3.out.1.trans (HQ.out.k.below H3.out.1.size (fun b hb => by have hq := H3.out.2.2.2; simp only [List.mem_cons, List.not_mem_nil, or_false] at hb; rcases hb with rfl | rfl | rfl <;> omega))
      · have hAu : S.agBad (portsN L) (S.A.upto S.A.cells.length) = none ∧ S.firstBad (Wir.slotsOf (-1) S.P.length) = none ∧ Au X br z (z + 1) S.A.live (S.P.length : Int) (S.nWire (Wir.slotsOf (-1) S.P.length) : Int) (S.nOpen (Wir.slotsOf (-1) S.P.length) : Int) (0, 0) 0 wr := by
          rcases HK.out with ⟨h, _⟩ | ⟨h, _⟩ | ⟨_, h⟩ | ⟨h, _⟩
          · exact absurd h (by decide)
          · exact absurd h (by decide)
          · exact h
          · exact absurd h (by decide)
        have HA := Lib.hid hAu
        have hp64 := H3.out.2.2.1.b.g.ok.p
        have w1 := S.nWire_le (Wir.slotsOf (-1) S.P.length)
        have w2 := S.nOpen_le (Wir.slotsOf (-1) S.P.length)
        rw [Wir.slotsOf_len] at w1 w2
        clear hAu HK
        go_wp2_with (go_at_call 86
                     refine (au_cells (w.heap.size + 3) (w.heap.size + 1) (z + 2) B A S FA br z (z + 1) S.A.live (S.P.length : Int) _ _ (0, 0) 0 wr (by omega) ?ba ?bs ?ab HA.out.2.2.self).mono ?_)
        case ba => exact (HW.out.block _ (heap_lt H3.out.2.2.1.a) (by have := H3.out.2.2.2; simp; omega)).trans H3.out.2.2.1.a
        case bs => exact (HW.out.block _ (heap_lt H3.out.2.2.1.f) (by have := ty_ne H3.out.2.2.1.f H3.out.2.1.r (by decide); simp; omega)).trans H3.out.2.2.1.f
        case ab => exact HA.out.2.2.base H3.out.2.2.1.b
        rintro e w3 ⟨⟨r, rfl⟩, hres, hk3⟩
        clear hk3 l0 l1 l2 ll w1 w2 hp64
        rcases hres with ⟨hn, ha3⟩ | ⟨q, hq, x', o', ha3⟩
        · have re := ha3.e
          have HQ : Hid (S.agBad (portsN L) (S.A.upto S.A.cells.length) = none ∧ S.firstBad S.pts = none ∧ Au X br z (z + 1) S.A.live (S.P.length : Int) (S.nWire S.pts : Int) (S.nOpen S.pts : Int) (0, 0) 0 w3) := by
            refine ⟨HA.out.1, ?_, ?_⟩
            · rw [S.pts_upto, S.firstBad_append _ _ HA.out.2.1]; exact hn
            · rw [S.pts_upto, S.nWire_append, S.nOpen_append, Int.natCast_add, Int.natCast_add]
              exact HA.out.2.2.re ha3
          have e2 : w3.cell? ⟨z + 1, 0, none⟩ = some (.int .i64 0) := by simp [World.cell?, re]
          have el := heap_lt re
          clear hn ha3 re
          simp only []
          go_wp2_with fail
          go_roundw
          case measure => simp [intOf]
          case rel => exact ⟨3, by go_num, by omega, .inr (.inr (.inr ⟨rfl, HQ.out⟩))⟩
        · have HQ := Lib.hid (HA.out.2.2.re ha3)
          have HV : Hid (S.auditV (portsN L) (chk L).1 = ((0, 0, 0, 0, q), 42)) := by
            show _ = _
            have hp : S.firstBad S.pts = some q := by rw [S.pts_upto, S.firstBad_append _ _ HA.out.2.1]; exact hq
            unfold Wir.auditV; rw [if_neg (by simp [HZ.out]), HA.out.1, hp]
          clear ha3 hq
          simp only []
          have rt := HQ.out.t
          have re := HQ.out.e
          have rr := (HQ.out.k.block (w.heap.size + 2) (heap_lt H3.out.2.2.1.r) H3.out.2.2.1.ne).trans H3.out.2.2.1.r
          have t2 : w3.cell? ⟨z, 0, none⟩ = some (.int .i64 q.1) := by simp [World.cell?, rt]
          have t3 : w3.cell? ⟨z, 1, none⟩ = some (.int .i64 q.2) := by simp [World.cell?, rt]
          have e2 : w3.cell? ⟨z + 1, 0, none⟩ = some (.int .i64 42) := by simp [World.cell?, re]
          have tl := heap_lt rt
          have el := heap_lt re
          have rl := heap_lt rr
          have z0 : w3.cell? ⟨w.heap.size + 2, 0, none⟩ = some (.int .i64 0) := by simp [World.cell?, rr]
          have z1 : w3.cell? ⟨w.heap.size + 2, 1, none⟩ = some (.int .i64 0) := by simp [World.cell?, rr]
          have z2 : w3.cell? ⟨w.heap.size + 2, 2, none⟩ = some (.int .i64 0) := by simp [World.cell?, rr]
          have z3 : w3.cell? ⟨w.heap.size + 2, 3, none⟩ = some (.int .i64 0) := by simp [World.cell?, rr]
          have z4 : w3.cell? ⟨w.heap.size + 2, 4, none⟩ = some (.int .i64 0) := by simp [World.cell?, rr]
          have z5 : w3.cell? ⟨w.heap.size + 2, 5, none⟩ = some (.int .i64 0) := by simp [World.cell?, rr]
          have y0 : w3.frozen? ⟨w.heap.size + 2, 0, none⟩ = false := by simp [World.frozen?, rr]
          have y1 : w3.frozen? ⟨w.heap.size + 2, 1, none⟩ = false := by simp [World.frozen?, rr]
          have y2 : w3.frozen? ⟨w.heap.size + 2, 2, none⟩ = false := by simp [World.frozen?, rr]
          have y3 : w3.frozen? ⟨w.heap.size + 2, 3, none⟩ = false := by simp [World.frozen?, rr]
          have y4 : w3.frozen? ⟨w.heap.size + 2, 4, none⟩ = false := by simp [World.frozen?, rr]
          have y5 : w3.frozen? ⟨w.heap.size + 2, 5, none⟩ = false := by simp [World.frozen?, rr]
          clear rr rt re
          have hzz := H3.out.2.2.2.2
          have hz1 : z ≠ w.heap.size + 2 := by omega
          have hz2 : z + 1 ≠ w.heap.size + 2 := by omega
          have hz3 : w.heap.size + 2 ≠ z := by omega
          have hz4 : w.heap.size + 2 ≠ z + 1 := by omega
          go_upto_region 20 with fail
          have HT := Lib.hid (And.intro t2 (And.intro t3 e2))
          go_region_held3 (fun Y => Y.cell? ⟨z, 0, none⟩ = some (.int .i64 q.1) ∧ Y.cell? ⟨z, 1, none⟩ = some (.int .i64 q.2) ∧ Y.cell? ⟨z + 1, 0, none⟩ = some (.int .i64 42))
            (first | with_reducible exact HT.out | (refine ⟨?_, ?_, ?_⟩ <;> go_simp))
            (fail)
          go_wp2_with fail
          try rw [Exit.noGoto_ret]
          have hv := HV.out
          rw [HR.out]
          refine bodyPost_ret (v := .tuple #[.agg #[.int .i64 0, .int .i64 0, .int .i64 0, .int .i64 0, .int .i64 q.1, .int .i64 q.2], .int .i64 42]) (by simp only [results, Try.results33]; go_simp) rfl ⟨by rw [hv]; rfl, ?_⟩
          refine Below.drew ?_
          iterate 6 (refine Below.setCell ?_ (by (try simp) <;> omega) _)
          exact H3.out.1.trans (HQ.out.k.below H3.out.1.size (fun b hb => by have hq := H3.out.2.2.2; simp only [List.mem_cons, List.not_mem_nil, or_false] at hb; rcases hb with rfl | rfl | rfl <;> omega))
      · have hAu : S.agBad (portsN L) (S.A.upto S.A.cells.length) = none ∧ S.firstBad S.pts = none ∧ Au X br z (z + 1) S.A.live (S.P.length : Int) (S.nWire S.pts : Int) (S.nOpen S.pts : Int) (0, 0) 0 wr := by
          rcases HK.out with ⟨h, _⟩ | ⟨h, _⟩ | ⟨h, _⟩ | ⟨_, h⟩
          · exact absurd h (by decide)
          · exact absurd h (by decide)
          · exact absurd h (by decide)
          · exact h
        have HV : Hid (S.auditV (portsN L) (chk L).1 = ((S.A.live, (S.P.length : Int), ((S.nWire S.pts / 2 : Nat) : Int), (S.nOpen S.pts : Int), (0, 0)), 0)) := by
          show _ = _
          unfold Wir.auditV; rw [if_neg (by simp [HZ.out]), hAu.1, hAu.2.1]
        have hpm := S.nWire_le S.pts
        have hpl := opens_le H3.out.2.2.1.b.g.ok
        have HQ := Lib.hid hAu.2.2
        obtain ⟨nw, hnw⟩ : ∃ nw, S.nWire S.pts = nw := ⟨_, rfl⟩
        obtain ⟨no, hno⟩ : ∃ no, S.nOpen S.pts = no := ⟨_, rfl⟩
        obtain ⟨lv, hlv⟩ : ∃ lv, S.A.live = lv := ⟨_, rfl⟩
        obtain ⟨np, hnp⟩ : ∃ np, S.P.length = np := ⟨_, rfl⟩
        rw [hnw, hno, hlv, hnp] at HQ HV
        have hnl : nw ≤ 30000 := by omega
        clear hAu HK hpm hpl hnw hno hlv hnp l0 l1 l2 ll
        have re := HQ.out.e
        have rb := HQ.out.r
        have rr := (HQ.out.k.block (w.heap.size + 2) (heap_lt H3.out.2.2.1.r) H3.out.2.2.1.ne).trans H3.out.2.2.1.r
        have e2 : wr.cell? ⟨z + 1, 0, none⟩ = some (.int .i64 0) := by simp [World.cell?, re]
        have el := heap_lt re
        have rl := heap_lt rr
        have z0 : wr.cell? ⟨w.heap.size + 2, 0, none⟩ = some (.int .i64 0) := by simp [World.cell?, rr]
        have z1 : wr.cell? ⟨w.heap.size + 2, 1, none⟩ = some (.int .i64 0) := by simp [World.cell?, rr]
        have z2 : wr.cell? ⟨w.heap.size + 2, 2, none⟩ = some (.int .i64 0) := by simp [World.cell?, rr]
        have z3 : wr.cell? ⟨w.heap.size + 2, 3, none⟩ = some (.int .i64 0) := by simp [World.cell?, rr]
        have z4 : wr.cell? ⟨w.heap.size + 2, 4, none⟩ = some (.int .i64 0) := by simp [World.cell?, rr]
        have z5 : wr.cell? ⟨w.heap.size + 2, 5, none⟩ = some (.int .i64 0) := by simp [World.cell?, rr]
        have y0 : wr.frozen? ⟨w.heap.size + 2, 0, none⟩ = false := by simp [World.frozen?, rr]
        have y1 : wr.frozen? ⟨w.heap.size + 2, 1, none⟩ = false := by simp [World.frozen?, rr]
        have y2 : wr.frozen? ⟨w.heap.size + 2, 2, none⟩ = false := by simp [World.frozen?, rr]
        have y3 : wr.frozen? ⟨w.heap.size + 2, 3, none⟩ = false := by simp [World.frozen?, rr]
        have y4 : wr.frozen? ⟨w.heap.size + 2, 4, none⟩ = false := by simp [World.frozen?, rr]
        have y5 : wr.frozen? ⟨w.heap.size + 2, 5, none⟩ = false := by simp [World.frozen?, rr]
        have b0 : wr.cell? ⟨br, 0, none⟩ = some (.int .i64 lv) := by simp [World.cell?, rb]
        have b1 : wr.cell? ⟨br, 1, none⟩ = some (.int .i64 np) := by simp [World.cell?, rb]
        have b2 : wr.cell? ⟨br, 2, none⟩ = some (.int .i64 nw) := by simp [World.cell?, rb]
        have b3 : wr.cell? ⟨br, 3, none⟩ = some (.int .i64 no) := by simp [World.cell?, rb]
        have b4 : wr.cell? ⟨br, 4, none⟩ = some (.int .i64 0) := by simp [World.cell?, rb]
        have b5 : wr.cell? ⟨br, 5, none⟩ = some (.int .i64 0) := by simp [World.cell?, rb]
        have bf : wr.frozen? ⟨br, 2, none⟩ = false := by simp [World.frozen?, rb]
        have bl := heap_lt rb
        have hbb : br ≠ w.heap.size + 2 := by have := H3.out.2.2.2; omega
        have eq2 : (nw : Int).tdiv 2 = ((nw / 2 : Nat) : Int) := by simp
        have ew2 : IntKind.i64.wrap ((nw / 2 : Nat) : Int) = ((nw / 2 : Nat) : Int) := IntWalk.i64_in _ (by omega)
        clear re rb rr
        go_wp2_with fail
        try rw [Exit.noGoto_ret]
        have hv := HV.out
        rw [HR.out]
        refine bodyPost_ret (v := .tuple #[.agg #[.int .i64 lv, .int .i64 (np : Int), .int .i64 ((nw / 2 : Nat) : Int), .int .i64 (no : Int), .int .i64 0, .int .i64 0], .int .i64 0]) (by simp only [results, Try.results33]; go_simp) rfl ⟨by rw [hv]; rfl, ?_⟩
        iterate 6 (refine Below.setCell ?_ (by (try simp) <;> omega) _)
        refine Below.setCell ?_ (by have := H3.out.2.2.2; simp; omega) _
        exact H3.out.1.trans (HQ.out.k.below H3.out.1.size (fun b hb => by have hq := H3.out.2.2.2; simp only [List.mem_cons, List.not_mem_nil, or_false] at hb; rcases hb with rfl | rfl | rfl <;> omega))
end
end Go.Proofs.Ythbobooiedcofaa
