/-
  Contract of skeinref11.Look, of a net that may be.
-/
import Derived.Test.YtkonfogebepccaaGreatDoorWebPlain
import Derived.Test.YtkonfogebepccaaGreatDoorRowPorts
import Derived.Test.YtkonfogebepccaaGreatDoorRef03L
import Derived.Test.YtkonfogebepccaaGreatDoorRef03N
import Derived.Deep.Cut
import Derived.Deep.RegionHeld3
/-
  A web in memory.
-/
namespace Go.Proofs.YtkonfogebepccaaGreatDoor
open Go.RowKit
set_option linter.unusedVariables false

theorem Row.type {w : World} {e : TypeId} {size n : Nat} {v : Value} {xs : List Value} (h : Row w e size v n xs) : ∀ b ∈ ownB v, ∃ cur, w.heap[b]? = some (.cells cur e (0, 0)) := by
  rcases h.2 with ⟨rfl, _⟩ | ⟨g, cap, cur, rfl, hh, _⟩
  · simp [ownB]
  · intro b hb; simp [ownB] at hb; subst hb; exact ⟨cur, hh⟩
theorem type_ne {w : World} {b c : Nat} {x y : Array Value} {e f : TypeId} (h : w.heap[b]? = some (.cells x e (0, 0))) (h' : w.heap[c]? = some (.cells y f (0, 0))) (hne : e ≠ f) : b ≠ c := by
  rintro rfl
  rw [h] at h'
  simp only [Option.some.injEq, Obj.cells.injEq] at h'
  exact hne h'.2.1
section
variable {X X' : World} {P f : Nat} {G : Nat → Nat} {A : Option Addr} {n ca : Nat} {pn : Int → Nat} {cs : List Int} {fr : Nat} {vC vD : Value} {m : Nat} {Lk : Pt → Pt}
theorem rowP_len (pn : Int → Nat) (cs : List Int) (Lk : Pt → Pt) (j : Int) : (rowP pn cs Lk j).length = pn (cs.getD j.toNat 0) := by simp [rowP]
theorem rowP_at {pn : Int → Nat} {cs : List Int} {c s : Nat} (Lk : Pt → Pt) (hs : s < pn (cs.getD c 0)) : (rowP pn cs Lk (c : Int)).getD s default = Lk ((c : Int), (s : Int)) := by
  have hs' : s < pn ((cs[c]?).getD 0) := by rwa [List.getD_eq_getElem?_getD] at hs
  simp [rowP, List.getD_eq_getElem?_getD, hs']
end
end Go.Proofs.YtkonfogebepccaaGreatDoor
namespace Go.Proofs.YtkonfogebepccaaGreatDoor
open Go.RowKit
attribute [local go_sem] cell_set
set_option maxRecDepth 100000
set_option linter.unusedVariables false

theorem nb3 {X : World} {b n1 ca n2 cb : Nat} {VA VB : Option Addr} {f : Int} (h : NBox X b VA n1 ca f VB n2 cb) : X.cell? ⟨b, 0, none⟩ = some (.slice VA n1 ca) ∧ X.cell? ⟨b, 1, none⟩ = some (.int .i64 f) ∧ X.cell? ⟨b, 2, none⟩ = some (.slice VB n2 cb) := ⟨h.c0, h.c1, h.c2⟩
theorem NBox.drew {X : World} {b n1 ca n2 cb : Nat} {VA VB : Option Addr} {f : Int} (h : NBox X b VA n1 ca f VB n2 cb) : NBox X.drew b VA n1 ca f VB n2 cb := ⟨h.lt, h.c0, h.c1, h.c2⟩
def LkBx (X : World) (b : Nat) : Prop := X.heap[b]? = some (.cells #[.slice none 0 0, .slice none 0 0, .slice none 0 0, .int .i64 0] 92 (0, 0))
theorem LkBx.below {X X' : World} {b : Nat} (h : LkBx X b) (hb : Below X.heap.size X X') : LkBx X' b := (hb.block b (heap_lt h)).trans h
theorem LkBx.cells {X : World} {b : Nat} (h : LkBx X b) : X.cell? ⟨b, 0, none⟩ = some (.slice none 0 0) ∧ X.cell? ⟨b, 1, none⟩ = some (.slice none 0 0) ∧ X.cell? ⟨b, 2, none⟩ = some (.slice none 0 0) ∧ X.cell? ⟨b, 3, none⟩ = some (.int .i64 0) ∧
    X.frozen? ⟨b, 0, none⟩ = false ∧ X.frozen? ⟨b, 1, none⟩ = false ∧ X.frozen? ⟨b, 2, none⟩ = false ∧ X.frozen? ⟨b, 3, none⟩ = false ∧ b < X.heap.size := by
  have h' : X.heap[b]? = some (.cells #[.slice none 0 0, .slice none 0 0, .slice none 0 0, .int .i64 0] 92 (0, 0)) := h
  refine ⟨?_, ?_, ?_, ?_, ?_, ?_, ?_, ?_, heap_lt h'⟩ <;> simp [World.cell?, World.frozen?, h']
theorem below_set4 {w X : World} {b : Nat} (h : Below w.heap.size w X) (hb : w.heap.size ≤ b) (u0 u1 u2 u3 : Value) : Below w.heap.size w ((((X.setCell ⟨b, 0, none⟩ u0).setCell ⟨b, 1, none⟩ u1).setCell ⟨b, 2, none⟩ u2).setCell ⟨b, 3, none⟩ u3) :=
  (((h.setCell (p := ⟨b, 0, none⟩) hb _).setCell (p := ⟨b, 1, none⟩) hb _).setCell (p := ⟨b, 2, none⟩) hb _).setCell (p := ⟨b, 3, none⟩) hb _
theorem other_set4 {X : World} {b t : Nat} (ht : t ≠ b) (u0 u1 u2 u3 : Value) : ((((X.setCell ⟨b, 0, none⟩ u0).setCell ⟨b, 1, none⟩ u1).setCell ⟨b, 2, none⟩ u2).setCell ⟨b, 3, none⟩ u3).heap[t]? = X.heap[t]? :=
  (Below.heap_setCell _ _ _ t ht).trans ((Below.heap_setCell _ _ _ t ht).trans ((Below.heap_setCell _ _ _ t ht).trans (Below.heap_setCell _ _ _ t ht)))
theorem NBox.other {X Y : World} {b n1 ca n2 cb : Nat} {VA VB : Option Addr} {f : Int} (h : NBox X b VA n1 ca f VB n2 cb) (e : Y.heap[b]? = X.heap[b]?) (hs : Y.heap.size = X.heap.size) : NBox Y b VA n1 ca f VB n2 cb :=
  ⟨by rw [hs]; exact h.lt, (World.cell?_of_block (a := ⟨b, 0, none⟩) e).trans h.c0, (World.cell?_of_block (a := ⟨b, 1, none⟩) e).trans h.c1, (World.cell?_of_block (a := ⟨b, 2, none⟩) e).trans h.c2⟩
theorem NBox.set4 {X : World} {b t n1 ca n2 cb : Nat} {VA VB : Option Addr} {f : Int} (h : NBox X b VA n1 ca f VB n2 cb) (ht : b ≠ t) (u0 u1 u2 u3 : Value) : NBox ((((X.setCell ⟨t, 0, none⟩ u0).setCell ⟨t, 1, none⟩ u1).setCell ⟨t, 2, none⟩ u2).setCell ⟨t, 3, none⟩ u3) b VA n1 ca f VB n2 cb :=
  h.other (other_set4 (X := X) ht u0 u1 u2 u3) (by simp)
section
variable (A : Option Addr) (n cap : Nat) (L : List (ByteArray × Int)) (VA VB : Option Addr) (ca cb : Nat) (cells : List Int) (f : Nat) (W : List (Pt × Pt)) (w : World)
set_option maxHeartbeats 4000000 in
theorem rlook (hn : n = L.length) (HL : Hid (AgRd w A L)) (hs : SigOk L) (HC : Hid (IntsRd w VA cells)) (HW : Hid (WrRd w VB W)) (hc : cells.length ≤ 5000) (hf : f ≤ 100) (hw : W.length ≤ 40000) (hok : Hid (NetOk (pnL L) cells f W)) :
    Calls Tryz.prog 32 #[.slice A n cap, netV VA ca cells f VB cb W] w fun e w' => ∃ V1 c1 V2 c2 V3 c3, e = .returned (.agg #[.slice V1 (allPs (pnL L) cells f).length c1, .slice V2 (firstN (pnL L) cells f cells.length) c2, .slice V3 (cells.length + 1) c3, .int .i64 (cells.length : Int)]) ∧
      PtsRd w' V1 (allPs (pnL L) cells f) ∧ IntsRd w' V2 (lkK (pnL L) cells f W W.length) ∧ IntsRd w' V3 (firstL (pnL L) cells f cells.length ++ [(firstN (pnL L) cells f cells.length : Int)]) ∧ Below w.heap.size w w' := by
  subst hn
  obtain ⟨i0, hi0, hi1, hi2, hi3⟩ := info_parts int_info
  obtain ⟨M, hM⟩ : ∃ M, firstN (pnL L) cells f cells.length = M := ⟨_, rfl⟩
  rw [hM]
  have HM := Lib.hid hM
  have hMl : M ≤ 100000 := by
    have := firstN_le (pnL_le hs) cells f cells.length
    omega
  clear hM
  go_enter Tryz.func32, Tryz.ntmps32
  go_upto_region 1 with fail
  refine absW (fun X => Below w.heap.size w X ∧ NBox X w.heap.size VA cells.length ca f VB W.length cb ∧ LkBx X (w.heap.size + 1)) ⟨by (repeat (first | exact Below.refl _ _ | (with_reducible refine Below.drew ?_) | (with_reducible refine Below.alloc ?_ (by (try simp); (try omega)) _) | (with_reducible refine Below.setCell ?_ (by (try simp); (try omega)) _) | (with_reducible refine Below.trans ?_ (Below.mono (by assumption) (by (try simp); (try omega)))))), ⟨by simp <;> omega, by go_simp, by go_simp, by go_simp⟩, ?_⟩ ?_
  · have := heap_alloc_new (w.alloc (.cells #[.slice VA cells.length ca, .int .i64 (f : Int), .slice VB W.length cb] 26)) (.cells #[.slice none 0 0, .slice none 0 0, .slice none 0 0, .int .i64 0] 92)
    rw [World.size_alloc] at this
    exact this
  rintro X ⟨hbx, hnb, hlb⟩
  have n0 := hnb.c0
  have n1 := hnb.c1
  have n2 := hnb.c2
  have hzy := hnb.lt
  have HX := Lib.hid (And.intro hbx (And.intro hnb hlb))
  clear hbx hnb hlb
  go_upto_region 3 with (first
    | (go_at_call 30
       refine (rfirst A _ cap L VA VB ca cb cells f W _ rfl (Lib.hid (HL.out.below HX.out.1)) hs (Lib.hid (HC.out.below HX.out.1)) hc hf).mono ?_
       rintro e w1 ⟨V0, c0, rfl, hf0⟩
       rw [HM.out]
       have HF0 := Lib.hid hf0
       have hnb := HX.out.2.1.below hf0.2.2
       have n0 := hnb.c0
       have n1 := hnb.c1
       have n2 := hnb.c2
       have hz1 := hnb.lt
       clear hnb
       have HRow : Hid (Row (w1.alloc (.cells #[.int .i64 (M : Int)] 3)) 3 1 (.slice V0 cells.length c0) cells.length (ivals (firstL (pnL L) cells f cells.length))) := hf0.1.alloc _
       have HSrc : Hid (Src (w1.alloc (.cells #[.int .i64 (M : Int)] 3)) (some ⟨w1.heap.size, 0, none⟩) 1 1 [.int .i64 (M : Int)]) :=
         Src.block (cs := #[.int .i64 (M : Int)]) (t := 3) (fr := (0, 0)) (heap_alloc_new w1 _) rfl (by simp [Value.oneCell'])
       have HB63 : cells.length + 1 ≤ maxLen := by simp only [maxLen]; omega
       have HB47 : (cells.length + 1) * 8 ≤ 140737488355328 := by omega
       clear hf0)
    | (at_builtin; go_loud (refine inPlain rfl (wpo_row_append _ _ _ rfl i0 _ 8 Tryz.underlying23 hi0 hi1 hi2 hi3 rfl rfl HRow.out _ 1 1 rfl [.int .i64 (M : Int)] HSrc.out HB63 HB47 ?_)); intro sv5 w2 r5 k5 o5; obtain ⟨V3, c3, rfl, hc5⟩ := r5.len
       have F1 : Hid (Fresh X w2 3 1 (cells.length + 1) (.slice V3 (cells.length + 1) c3) (ivals (firstL (pnL L) cells f cells.length ++ [(M : Int)]))) := by rw [ivals_snoc]; exact HF0.out.app k5 o5 r5))
  have HBz := Lib.hid (HX.out.1.trans (F1.out.2.2.mono HX.out.1.size))
  have HX2 := Lib.hid (F1.out.2.2)
  clear n0 n1 n2 hz1
  have SZ := (HX.out.2.1.below F1.out.2.2).drew
  have HBz := Lib.hid HBz.out.drew
  have HX2 := Lib.hid HX2.out.drew
  have HI3 : Hid (Row w2.drew 3 1 (.slice V3 (cells.length + 1) c3) (cells.length + 1) (ivals (firstL (pnL L) cells f cells.length ++ [(M : Int)]))) := F1.out.1.drew
  clear F1 HRow HSrc HF0
  have hzz : w.heap.size < w2.drew.heap.size := SZ.lt
  go_region_held3 (fun X => X.cell? ⟨w.heap.size, 0, none⟩ = some (.slice VA cells.length ca) ∧ X.cell? ⟨w.heap.size, 1, none⟩ = some (.int .i64 (f : Int)) ∧ X.cell? ⟨w.heap.size, 2, none⟩ = some (.slice VB W.length cb))
    (first | exact nb3 SZ | exact nb3 (SZ.set4 (by omega) _ _ _ _))
    (first
      | (go_at_call 56
         refine (rall A _ cap L VA VB ca cb cells f W _ rfl (Lib.hid (HL.out.below HBz.out)) hs (Lib.hid (HC.out.below HBz.out)) hc hf).mono ?_
         rintro e w3 ⟨V1, c1, rfl, hq⟩
         have SZ := SZ.below hq.2.2
         have HBz := Lib.hid (HBz.out.trans (hq.2.2.mono HBz.out.size))
         have HX2 := Lib.hid (HX2.out.trans (hq.2.2.mono HX2.out.size))
         have HI3 := Lib.hid (HI3.out.keep fun b hb => hq.2.2.block b (HI3.out.lt b hb))
         have HI1 := Lib.hid hq.1
         clear hq)
      | (go_at_call 57
         refine (rlinks A _ cap L VA VB ca cb cells f W _ rfl (Lib.hid (HL.out.below HBz.out)) hs (Lib.hid (HC.out.below HBz.out)) (Lib.hid (HW.out.below HBz.out)) hc hf hw hok).mono ?_
         rintro e w4 ⟨V2, c2, rfl, hq⟩
         rw [HM.out] at hq ⊢
         have SZ := SZ.below hq.2.2
         have HBz := Lib.hid (HBz.out.trans (hq.2.2.mono HBz.out.size))
         have HX2 := Lib.hid (HX2.out.trans (hq.2.2.mono HX2.out.size))
         have HI3 := Lib.hid (HI3.out.keep fun b hb => hq.2.2.block b (HI3.out.lt b hb))
         have HI1 := Lib.hid (HI1.out.keep fun b hb => hq.2.2.block b (HI1.out.lt b hb))
         have HI2 := Lib.hid hq.1
         have HLB := Lib.hid (HX.out.2.2.below HX2.out)
         obtain ⟨q0, q1, q2, q3, q4, q5, q6, q7, q8⟩ := HLB.out.cells
         clear hq))
  all_goals
    go_wp2_with fail
    refine bodyPost_ret (v := .agg #[.slice V1 (allPs (pnL L) cells f).length c1, .slice V2 M c2, .slice V3 (cells.length + 1) c3, .int .i64 (cells.length : Int)]) (by simp only [results, Tryz.results32]; go_simp) rfl ?_
    have hB : w4.heap[w.heap.size + 1]? = some (.cells #[.slice none 0 0, .slice none 0 0, .slice none 0 0, .int .i64 0] 92 (0, 0)) := HLB.out
    have r1 := HI1.out.keep fun b hb => other_set4 (X := w4) (b := w.heap.size + 1) (by obtain ⟨cur, hc⟩ := HI1.out.type b hb; exact type_ne hc hB (by decide)) (.slice V1 (allPs (pnL L) cells f).length c1) (.slice V2 M c2) (.slice V3 (cells.length + 1) c3) (.int .i64 (cells.length : Int))
    have r2 := HI2.out.keep fun b hb => other_set4 (X := w4) (b := w.heap.size + 1) (by obtain ⟨cur, hc⟩ := HI2.out.type b hb; exact type_ne hc hB (by decide)) (.slice V1 (allPs (pnL L) cells f).length c1) (.slice V2 M c2) (.slice V3 (cells.length + 1) c3) (.int .i64 (cells.length : Int))
    have r3 := HI3.out.keep fun b hb => other_set4 (X := w4) (b := w.heap.size + 1) (by obtain ⟨cur, hc⟩ := HI3.out.type b hb; exact type_ne hc hB (by decide)) (.slice V1 (allPs (pnL L) cells f).length c1) (.slice V2 M c2) (.slice V3 (cells.length + 1) c3) (.int .i64 (cells.length : Int))
    have hl2 : M = (lkK (pnL L) cells f W W.length).length := by rw [lkK_len, HM.out]
    have hl3 : cells.length + 1 = (firstL (pnL L) cells f cells.length ++ [(M : Int)]).length := by simp [firstL_len]
    exact ⟨V1, c1, V2, c2, V3, c3, rfl, r1.pts, Row.ints (cap := c2) (by rw [← hl2]; exact r2), Row.ints (cap := c3) (by rw [← hl3]; exact r3), below_set4 HBz.out (by omega) _ _ _ _⟩
end
end Go.Proofs.YtkonfogebepccaaGreatDoor
