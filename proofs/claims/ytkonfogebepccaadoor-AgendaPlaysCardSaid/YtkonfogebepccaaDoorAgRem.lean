/-
  Contracts of package agenda: Remove of a place, All.
-/
import Derived.Test.YtkonfogebepccaaDoorAgPlain
import Derived.Deep.Cut
namespace Go.Proofs.YtkonfogebepccaaDoor
open Go.RowKit
attribute [local go_sem] cell_set
set_option maxRecDepth 100000
set_option linter.unusedVariables false

/-- What stands of the boxes and the agenda's head between two steps of Remove. -/
structure RmS (w X : World) (A B n cap : Nat) (V : Option Addr) (u v : Int) : Prop where
  c0 : X.cell? ⟨A, 0, none⟩ = some (.slice V n cap)
  c1 : X.cell? ⟨A, 1, none⟩ = some (.map (some B))
  z0 : X.frozen? ⟨A, 0, none⟩ = false
  x0 : X.cell? ⟨w.heap.size + 1, 0, none⟩ = some (.int .i64 u)
  x1 : X.cell? ⟨w.heap.size + 1, 1, none⟩ = some (.int .i64 v)
  y0 : X.cell? ⟨w.heap.size, 0, none⟩ = some (.int .i64 0)
  y1 : X.cell? ⟨w.heap.size, 1, none⟩ = some (.int .i64 0)
  f0 : X.frozen? ⟨w.heap.size, 0, none⟩ = false
  f1 : X.frozen? ⟨w.heap.size, 1, none⟩ = false
  lt : w.heap.size + 1 < X.heap.size
theorem RmS.kp {w X Y : World} {A B n cap : Nat} {V : Option Addr} {u v : Int} {F : List Nat} (h : RmS w X A B n cap V u v) (hk : Kp F X Y) (hA : A < w.heap.size) (hAF : A ∉ F) (hF : ∀ b ∈ F, b < w.heap.size) : RmS w Y A B n cap V u v := by
  have hlt := h.lt
  have n0 : w.heap.size ∉ F := fun e => absurd (hF _ e) (by omega)
  have n1 : w.heap.size + 1 ∉ F := fun e => absurd (hF _ e) (by omega)
  exact ⟨(hk.cell (p := ⟨A, 0, none⟩) (show A < X.heap.size by omega) hAF).trans h.c0, (hk.cell (p := ⟨A, 1, none⟩) (show A < X.heap.size by omega) hAF).trans h.c1, (hk.frozen (p := ⟨A, 0, none⟩) (show A < X.heap.size by omega) hAF).trans h.z0,
    (hk.cell (p := ⟨w.heap.size + 1, 0, none⟩) hlt n1).trans h.x0, (hk.cell (p := ⟨w.heap.size + 1, 1, none⟩) hlt n1).trans h.x1,
    (hk.cell (p := ⟨w.heap.size, 0, none⟩) (show w.heap.size < X.heap.size by omega) n0).trans h.y0, (hk.cell (p := ⟨w.heap.size, 1, none⟩) (show w.heap.size < X.heap.size by omega) n0).trans h.y1,
    (hk.frozen (p := ⟨w.heap.size, 0, none⟩) (show w.heap.size < X.heap.size by omega) n0).trans h.f0, (hk.frozen (p := ⟨w.heap.size, 1, none⟩) (show w.heap.size < X.heap.size by omega) n0).trans h.f1, Nat.lt_of_lt_of_le hlt hk.size⟩

theorem ag_cut (g n cap k : Nat) (hk : k ≤ n) (hc : n ≤ cap) (wx : World) : (Instr.slice 27 (.slice (some ⟨g, 0, none⟩) n cap) (some (.int .i64 (k : Int))) none none).run Tryd.prog wx = .ok (.slice (some (if cap = k then (⟨g, 0, none⟩ : Addr) else ⟨g, k * 2, none⟩)) (n - k) (cap - k)) wx := by
  have hi : (Tryd.prog.info? 35).map (·.size) = some 2 := by kernel_rfl
  obtain ⟨i, hi, hsz⟩ : ∃ i, Tryd.prog.info? 35 = some i ∧ i.size = 2 := by
    cases hq : Tryd.prog.info? 35 with
    | none => rw [hq] at hi; cases hi
    | some i => rw [hq] at hi; exact ⟨i, rfl, by simpa using hi⟩
  have hb : (Instr.sliceBounds true n cap (some (.int .i64 (k : Int))) none none).run Tryd.prog wx = .ok (k, n, cap) wx := by
    simp [Instr.sliceBounds, Instr.sliceBound, asIntOf, hk]
  simp only [Instr.slice, Sem.run_bind, run_underlying Tryd.underlying27, Result.andThen_ok, hb]
  split <;> simp [sizeOf, typeInfo, hi, hsz, Addr.add_lit]
theorem ag_box2 {Z : World} {A m : Nat} {ps : List (Int × Int)} {F : List Nat} (h : AG Z A ps F) (hm : ∀ b ∈ F, b < m) (u v : Int) : AG ((Z.setCell ⟨m, 0, none⟩ (.int .i64 u)).setCell ⟨m, 1, none⟩ (.int .i64 v)) A ps F :=
  h.keep fun b hb => (Below.heap_setCell _ _ _ b (by have := hm b hb; show b ≠ m; omega)).trans (Below.heap_setCell _ _ _ b (by have := hm b hb; show b ≠ m; omega))
set_option maxHeartbeats 2000000 in
/-- Remove, of a place that there is. -/
theorem ag_remove (A : Nat) (ps : List (Int × Int)) (F : List Nat) (k : Nat) (w : World) (h : AG w A ps F) (hok : AgOk ps) (hk : k < ps.length) (hl : ps.length < 65536) :
    Calls Tryd.prog 10 #[.pointer (some ⟨A, 0, none⟩), .int .i64 (k : Int)] w fun e w' => e = .returned (.tuple #[.agg #[.int .i64 ps[k].1, .int .i64 ps[k].2], .int .i64 0]) ∧ (∃ F', AG w' A (ps.eraseIdx k) F' ∧ ∀ b ∈ F', b ∈ F ∨ w.heap.size ≤ b) ∧ Kp F w w' := by
  obtain ⟨p0, p1⟩ := pcells_at hk
  have HER := Lib.hid (agW_erase hok hk)
  have hlen : (ps.eraseIdx k).length = ps.length - 1 := by rw [List.length_eraseIdx, if_pos hk]
  have hpe := pcells_erase ps k
  generalize hpv : ps[k] = pv at *
  obtain ⟨u, v⟩ := pv
  obtain ⟨sv, B, c0, c1, z0, hr, hm, rfl, hA⟩ := h.head
  obtain ⟨g, cap, cur, rfl, hg, hcap, _⟩ := hr.some_ (by omega)
  have hgl := heap_lt hg
  have hAl := heap_lt hA
  have hBl := hm.lt
  have hAB : A ≠ B := by
    rintro rfl
    obtain ⟨E, c, hb, _⟩ := hm
    rw [hA] at hb; cases hb
  have hgB : g ≠ B := by
    rintro rfl
    obtain ⟨E, c, hb, _⟩ := hm
    rw [hg] at hb; cases hb
  have hAg : A ≠ g := by
    rintro rfl
    rw [hA] at hg; injection hg with hg; injection hg with _ ht; exact absurd ht (by decide)
  have r0 := (hr.cellAt (k * 2) (by omega)).trans p0
  have r1 := (hr.cellAt (k * 2 + 1) (by omega)).trans p1
  have HH := Lib.hid (And.intro hA (And.intro hr hm))
  have HPE := Lib.hid (And.intro hpe hlen)
  have HNE := Lib.hid (And.intro hAB (And.intro hgB hAg))
  have hone := pcells_one ps
  clear hr hm hg hA p0 p1 hpe hlen h hok hpv hAB hgB hAg
  obtain ⟨n, hn⟩ : ∃ n, ps.length = n := ⟨_, rfl⟩
  rw [hn] at hk hl hcap c0 HH HPE
  have HN := Lib.hid hn
  clear hn
  have hkn : (k : Int) < (n : Int) := by omega
  go_enter Tryd.func10, Tryd.ntmps10
  go_upto_region 4 with (go_at_call 51; refine (ag_none_is _ B _ (by go_simp)).mono ?_; rintro e w' ⟨rfl, rfl⟩)
  refine absW (fun X => Below w.heap.size w X ∧ RmS w X A B n cap (some ⟨g, 0, none⟩) u v) ⟨by (repeat (first | exact Below.refl _ _ | (with_reducible refine Below.drew ?_) | (with_reducible refine Below.alloc ?_ (by (try simp); (try omega)) _) | (with_reducible refine Below.setCell ?_ (by (try simp); (try omega)) _) | (with_reducible refine Below.trans ?_ (Below.mono (by assumption) (by (try simp); (try omega)))))), ?_⟩ ?_
  · refine ⟨?_, ?_, ?_, ?_, ?_, ?_, ?_, ?_, ?_, ?_⟩ <;> first | (go_simp; done) | (simp <;> omega)
  rintro X ⟨hb, hs⟩
  have c0 := (hs).c0
  have c1 := (hs).c1
  have z0 := (hs).z0
  have x0 := (hs).x0
  have x1 := (hs).x1
  have y0 := (hs).y0
  have y1 := (hs).y1
  have f0 := (hs).f0
  have f1 := (hs).f1
  have lt := (hs).lt
  have HX := Lib.hid (And.intro hb hs)
  have HM0 : Hid (MP ik X B (agW ps)) := HH.out.2.2.keep (hb.block B hBl)
  clear hb hs r0 r1
  (refine region_tail 6 (by kernel_rfl) (by kernel_rfl) ?_; simp only [List.take_succ_cons, List.take_zero, List.drop_succ_cons, List.drop_zero]; repeat still_step; try refine wpStill_nil ?_)
  refine inPlain (by rfl) (wpo_map_delete (by rfl) HM0.out.drew kintA Tryd.underlying99 (by rfl) (k := u) (by rfl) ?_)
  intro w1 m1 k1 e1
  have S1 := Lib.hid (HX.out.2.kp ((Kp.refl [B] X).drew.trans k1 (by simp)) hAl (by simpa using HNE.out.1) (by simpa using hBl))
  have K1 := Lib.hid ((Kp.of_below HX.out.1 (F := [B])).trans ((Kp.refl [B] X).drew.trans k1 (by simp)) (by simp))
  have M1 := Lib.hid m1
  clear m1 k1 e1
  clear c0 c1 z0 x0 x1 y0 y1 f0 f1 lt
  have c0 := (S1.out).c0
  have c1 := (S1.out).c1
  have z0 := (S1.out).z0
  have x0 := (S1.out).x0
  have x1 := (S1.out).x1
  have y0 := (S1.out).y0
  have y1 := (S1.out).y1
  have f0 := (S1.out).f0
  have f1 := (S1.out).f1
  have lt := (S1.out).lt
  go_wp2_with fail
  (refine region_tail 6 (by kernel_rfl) (by kernel_rfl) ?_; simp only [List.take_succ_cons, List.take_zero, List.drop_succ_cons, List.drop_zero]; repeat still_step; try refine wpStill_nil ?_)
  refine inPlain (by rfl) (wpo_map_delete (by rfl) M1.out.drew kintA Tryd.underlying99 (by rfl) (k := v) (by rfl) ?_)
  intro w2 m2 k2 e2
  have S2 := Lib.hid (S1.out.kp ((Kp.refl [B] w1).drew.trans k2 (by simp)) hAl (by simpa using HNE.out.1) (by simpa using hBl))
  have K2 := Lib.hid (K1.out.trans ((Kp.refl [B] w1).drew.trans k2 (by simp)) (by simp))
  have M2 : Hid (MP ik w2 B (agW (ps.eraseIdx k))) := by
    have := m2
    rw [HER.out] at this
    exact this
  clear m2 k2 e2
  clear c0 c1 z0 x0 x1 y0 y1 f0 f1 lt
  have c0 := (S2.out).c0
  have c1 := (S2.out).c1
  have z0 := (S2.out).z0
  have x0 := (S2.out).x0
  have x1 := (S2.out).x1
  have y0 := (S2.out).y0
  have y1 := (S2.out).y1
  have f0 := (S2.out).f0
  have f1 := (S2.out).f1
  have lt := (S2.out).lt
  have HR2 : Hid (Row w2 35 2 (.slice (some ⟨g, 0, none⟩) n cap) n (pcells ps)) := HH.out.2.1.kp K2.out (by simp [ownB]; exact HNE.out.2.1)
  go_wp2_with fail
  obtain ⟨m, hm⟩ : ∃ m, m = k + 1 := ⟨_, rfl⟩
  have hk2 : IntKind.i64.wrap ((k : Int) + 1) = (m : Int) := by rw [IntWalk.i64_in _ (by omega)]; omega
  have hs1 := ag_cut g n cap k (by omega) (by omega)
  rw [if_neg (by omega : ¬ cap = k)] at hs1
  have hs2 := ag_cut g n cap m (by omega) (by omega)
  obtain ⟨sp, hsp⟩ : ∃ sp : Addr, (if cap = m then (⟨g, 0, none⟩ : Addr) else ⟨g, m * 2, none⟩) = sp := ⟨_, rfl⟩
  rw [hsp] at hs2
  have HSP := Lib.hid (And.intro hm hsp)
  clear hm hsp
  (refine region_tail 13 (by kernel_rfl) (by kernel_rfl) ?_; simp only [List.take_succ_cons, List.take_zero, List.drop_succ_cons, List.drop_zero]; repeat still_step; try refine wpStill_nil ?_)
  refine inPlain (by rfl) (wpo_row_shift _ _ _ (by rfl) Tryd.underlying27 (by kernel_rfl) HR2.out.drew (pcells_one ps) hk (some sp) _ _ _ _ _ (by rfl) (by rfl) rfl rfl (by rw [HSP.out.1]) (fun h => by rw [← HSP.out.2, if_neg (by have := HSP.out.1; omega), HSP.out.1]) ?_)
  intro w3 r3 k3 e3
  have hgw : ∀ b ∈ [g], b < w.heap.size := by simpa using hgl
  have S3 := Lib.hid (S2.out.kp ((Kp.refl [g] w2).drew.trans k3 (by simp)) hAl (by simpa using HNE.out.2.2) hgw)
  have HR3 : Hid (Row w3 35 2 (.slice (some ⟨g, 0, none⟩) (n - 1) cap) (n - 1) (pcells (ps.eraseIdx k))) := by
    rw [HPE.out.1]; exact r3
  have HM3 : Hid (MP ik w3 B (agW (ps.eraseIdx k))) := M2.out.keep (k3.block B M2.out.lt (by simpa using Ne.symm HNE.out.2.1))
  have K3 : Hid (Kp [A, B, g] w w3) := (K2.out.mono (by simp)).trans ((Kp.refl [g] w2).drew.trans k3 (by simp)) (by simp)
  have HA3 : Hid (w3.heap[A]? = some (.cells #[.slice (some ⟨g, 0, none⟩) n cap, .map (some B)] 101 (0, 0))) := by
    have e2 : w2.heap[A]? = w.heap[A]? := K2.out.block A hAl (by simpa using HNE.out.1)
    have e3 : w3.heap[A]? = w2.heap[A]? := k3.block A (by have := K2.out.size; show A < w2.heap.size; omega) (by simpa using HNE.out.2.2)
    exact (e3.trans e2).trans HH.out.1
  clear r3 k3 e3 hs1 hs2
  clear c0 c1 z0 x0 x1 y0 y1 f0 f1 lt
  have c0 := (S3.out).c0
  have c1 := (S3.out).c1
  have z0 := (S3.out).z0
  have x0 := (S3.out).x0
  have x1 := (S3.out).x1
  have y0 := (S3.out).y0
  have y1 := (S3.out).y1
  have f0 := (S3.out).f0
  have f1 := (S3.out).f1
  have lt := (S3.out).lt
  obtain ⟨q, hq⟩ : ∃ q, q = n - 1 := ⟨_, rfl⟩
  have hq2 : IntKind.i64.wrap ((n : Int) - 1) = (q : Int) := by rw [IntWalk.i64_in _ (by omega)]; omega
  have HQ := Lib.hid hq
  have hqc : q ≤ cap := by omega
  clear hq
  go_wp2_with fail
  (refine region_tail 12 (by kernel_rfl) (by kernel_rfl) ?_; simp only [List.take_succ_cons, List.take_zero, List.drop_succ_cons, List.drop_zero]; repeat still_step; try refine wpStill_nil ?_)
  go_wp2_with fail
  have HZ : Hid (AG (w3.drew.setCell ⟨A, 0, none⟩ (.slice (some ⟨g, 0, none⟩) q cap)) A (ps.eraseIdx k) [A, B, g] ∧ Kp [A, B, g] w (w3.drew.setCell ⟨A, 0, none⟩ (.slice (some ⟨g, 0, none⟩) q cap))) := by
    refine ⟨⟨.slice (some ⟨g, 0, none⟩) q cap, B, ?_, ?_, ?_, rfl⟩, K3.out.drew.setCell (by simp) _⟩
    · have h1 : w3.drew.heap[A]? = some (.cells #[.slice (some ⟨g, 0, none⟩) n cap, .map (some B)] 101 (0, 0)) := HA3.out
      simp [World.setCell, Array.getElem?_modify, h1]
    · have h1 := HR3.out.keep (w' := w3.drew.setCell ⟨A, 0, none⟩ (.slice (some ⟨g, 0, none⟩) q cap)) (fun b hb => Below.heap_setCell _ _ _ b (fun e => by simp [ownB] at hb; subst hb; exact HNE.out.2.2 e.symm))
      rw [← HQ.out] at h1
      have e : (ps.eraseIdx k).length = q := by rw [HPE.out.2, HQ.out]
      rw [e]; exact h1
    · exact HM3.out.keep (Below.heap_setCell _ _ _ B (Ne.symm HNE.out.1))
  have hlt : ∀ b ∈ [A, B, g], b < w.heap.size := by simp [hAl, hBl, hgl]
  have HF := Lib.hid (And.intro (ag_box2 HZ.out.1 hlt u v) (HZ.out.2))
  exact bodyPost_ret (v := .tuple #[.agg #[.int .i64 u, .int .i64 v], .int .i64 0]) (by simp only [results, Tryd.results10]; go_simp) rfl ⟨rfl, ⟨[A, B, g], HF.out.1, by intro b hb; exact .inl hb⟩, (HF.out.2.setCell (.inr (Nat.le_refl _)) _).setCell (.inr (Nat.le_refl _)) _⟩
end Go.Proofs.YtkonfogebepccaaDoor
